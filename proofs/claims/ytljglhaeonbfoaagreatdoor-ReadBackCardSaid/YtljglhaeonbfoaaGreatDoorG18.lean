/- law28: certificates as plain data: what words name, what a text tells, which of two facts is ahead. laws 04, 07: plain: what the texts of law28 hold that no certificate needs, parted from them (BK2, BK5, BK6, BK15 to BK18, P28): not to be imported beside them. law04: plain: a text with more blanks between its words, and more ends, remarks behind its lines lexes alike. -/
import Derived.Test.YtljglhaeonbfoaaGreatDoorG15
import Derived.Test.YtljglhaeonbfoaaGreatDoorG12
import Derived.Test.YtljglhaeonbfoaaGreatDoorL2i
import Derived.Test.YtljglhaeonbfoaaGreatDoorG20
import Derived.Test.YtljglhaeonbfoaaGreatDoorG17
import Derived.Lib.ItoaLen
set_option linter.unusedSimpArgs false
set_option linter.unusedVariables false
namespace Go.Proofs.YtljglhaeonbfoaaGreatDoor
def digW (b : UInt8) : Bool := decide (48 ≤ b.toNat) && decide (b.toNat ≤ 57)
def numW (c : UInt8) (most : Nat) (s : ByteArray) : Option Nat :=
 match s.data.toList with
 | [] => none
 | x :: l => if (x == c && !l.isEmpty && decide (l.length ≤ 4) && l.all digW && (decide (l.length = 1) || !(l.head? == some 48)) && decide (spell 0 l < most)) = true then some (spell 0 l) else none
def keyB (c : UInt8) (n : Nat) : ByteArray := ⟨(c :: Lib.decDigits n).toArray⟩
theorem head_dec : ∀ (u : Nat), 1 ≤ u → (Lib.decDigits u).head? ≠ some 48 := by
 intro u
 induction u using Nat.strongRecOn with
 | _ u ih =>
  intro h1
  by_cases h : u < 10
  ·rw [Lib.decDigits_one h]
   intro e
   injection e with e
   have := congrArg UInt8.toNat e
   rw [ofNat_toNat (by omega)] at this
   simp at this
   omega
  ·rw [Lib.decDigits, dif_neg h]
   have i3 := (can_dec (u / 10)).2.2
   have := ih (u / 10) (by omega) (by omega)
   cases hd : Lib.decDigits (u / 10) with
   | nil => exact absurd hd i3
   | cons x l => rw [hd] at this; simpa using this
theorem dec_len {u : Nat} : (Lib.decDigits u).length = if u < 10 then 1 else (Lib.decDigits (u / 10)).length + 1 := by
 by_cases h : u < 10
 ·rw [Lib.decDigits_one h, if_pos h]; rfl
 ·rw [Lib.decDigits, dif_neg h, if_neg h, List.length_append]; rfl
theorem dec_len4 {u : Nat} (h : u < 1000) : (Lib.decDigits u).length ≤ 3 := by
 rw [dec_len]
 split
 ·omega
 ·rw [dec_len]
  split
  ·omega
  ·rw [dec_len, if_pos (by omega)]; decide
theorem digW_iff (l : List UInt8) : l.all digW = true ↔ DigB l := by
 unfold digW DigB
 simp
theorem numW_key {c : UInt8} {n most : Nat} (h : n < most) (hm : most ≤ 1000) : numW c most (keyB c n) = some n := by
 obtain ⟨h1, h2, h3⟩ := can_dec n
 have h4 : (Lib.decDigits n).length = 1 ∨ (Lib.decDigits n).head? ≠ some 48 := by
  by_cases h0 : n < 10
  ·exact .inl (by rw [dec_len, if_pos h0])
  ·exact .inr (head_dec n (by omega))
 have h5 := dec_len4 (show n < 1000 by omega)
 unfold numW keyB
 simp only
 rw [if_pos]
 ·rw [h2]
 ·have e1 : (Lib.decDigits n).isEmpty = false := by cases hd : Lib.decDigits n <;> simp_all
  have e2 := (digW_iff _).2 h1
  have e3 : (decide ((Lib.decDigits n).length = 1) || !((Lib.decDigits n).head? == some 48)) = true := by
   rcases h4 with h | h
   ·simp [h]
   ·have : ((Lib.decDigits n).head? == some 48) = false := by simpa using h
    rw [this]; simp
  rw [e1, e2, e3, h2]
  simp
  omega
theorem numW_inv {c : UInt8} {n most : Nat} {s : ByteArray} (h : numW c most s = some n) : s = keyB c n ∧ n < most := by
 unfold numW at h
 split at h
 ·cases h
 ·rename_i x l hl
  split at h
  ·rename_i hc
   injection h with h
   simp only [Bool.and_eq_true, Bool.or_eq_true, decide_eq_true_eq, Bool.not_eq_true', beq_iff_eq, digW_iff] at hc
   obtain ⟨⟨⟨⟨⟨h1, h2⟩, h3⟩, h4⟩, h5⟩, h6⟩ := hc
   have hne : l ≠ [] := by intro e; rw [e] at h2; cases h2
   have hcan := (dec_can l.length l rfl h4 hne (by
    rcases h5 with h5 | h5
    ·exact .inl h5
    ·exact .inr (by simpa using h5))).1
   rw [h] at hcan h6
   refine ⟨?_, h6⟩
   apply bytes_ext
   unfold keyB
   rw [hl, hcan, h1]
  ·cases h
def loopC {σ : Type} (go : σ → Option σ) : Nat → σ → σ
 | 0, x => x
 | f + 1, x => match go x with
  | none => x
  | some y => loopC go f y
def runC {σ : Type} (go : σ → Option σ) (μ : σ → Nat) (x : σ) : σ := loopC go (μ x) x
section
variable {σ : Type} {go : σ → Option σ} {μ : σ → Nat}
theorem loop_none {f : Nat} {x : σ} (h : go x = none) : loopC go (f + 1) x = x := by
 show (match go x with | none => x | some y => loopC go f y) = x
 rw [h]
theorem loop_some {f : Nat} {x y : σ} (h : go x = some y) : loopC go (f + 1) x = loopC go f y := by
 show (match go x with | none => x | some y => loopC go f y) = _
 rw [h]
theorem loop_more (hd : ∀ x y, go x = some y → μ y < μ x) : ∀ (f g : Nat) (x : σ), μ x ≤ f → μ x ≤ g → loopC go f x = loopC go g x
 | 0, 0, _, _, _ => rfl
 | 0, g + 1, x, h, _ => by
  show x = match go x with | none => x | some y => loopC go g y
  cases hg : go x with
  | none => rfl
  | some y => have := hd x y hg; omega
 | f + 1, 0, x, _, h => by
  show (match go x with | none => x | some y => loopC go f y) = x
  cases hg : go x with
  | none => rfl
  | some y => have := hd x y hg; omega
 | f + 1, g + 1, x, h1, h2 => by
  show (match go x with | none => x | some y => loopC go f y) = match go x with | none => x | some y => loopC go g y
  cases hg : go x with
  | none => rfl
  | some y => have := hd x y hg; exact loop_more hd f g y (by omega) (by omega)
theorem run_go (hd : ∀ x y, go x = some y → μ y < μ x) {x y : σ} (h : go x = some y) : runC go μ x = runC go μ y := by
 have := hd x y h
 unfold runC
 obtain ⟨k, hk⟩ : ∃ k, μ x = k + 1 := ⟨μ x - 1, by omega⟩
 rw [hk]
 show (match go x with | none => x | some y => loopC go k y) = _
 rw [h]
 exact loop_more hd _ _ y (by omega) (Nat.le_refl _)
theorem run_stop {x : σ} (h : go x = none) : runC go μ x = x := by
 unfold runC
 cases μ x with
 | zero => rfl
 | succ k => show (match go x with | none => x | some y => loopC go k y) = x; rw [h]
end
def leftC (s : Cur) : Nat := if s.e = 0 then s.ws.length else 0
theorem left_fail {x : Int} (hx : x ≠ 0) (s : Cur) : leftC (failC x s) = 0 := by
 unfold failC
 by_cases h : s.e ≠ 0 ∨ x = 0
 ·rw [if_pos h]
  unfold leftC
  rw [if_neg (by rcases h with h | h; exact h; exact absurd h hx)]
 ·rw [if_neg h]
  split <;> (unfold leftC; rw [if_neg hx])
theorem left_pop (s : Cur) : leftC (popC s) = leftC s - 1 := by
 unfold leftC popC
 simp only
 split
 ·rw [List.length_tail]
 ·rfl
theorem left_num (lo hi : Int) (s : Cur) : leftC (numC lo hi s).2 ≤ leftC s - 1 := by
 unfold numC
 split
 ·split
  ·split
   ·rw [left_fail (by decide)]; omega
   ·rw [left_pop]; omega
  ·rw [left_fail (by decide)]; omega
 ·rw [left_fail (by decide)]; omega
theorem left_name (s : Cur) : leftC (nameC s).2 ≤ leftC s - 1 := by
 unfold nameC
 split
 ·split
  ·rw [left_pop]; omega
  ·rw [left_fail (by decide)]; omega
 ·rw [left_fail (by decide)]; omega
theorem left_mark : ∀ (l : List ByteArray) (s : Cur), leftC (markC l s) ≤ leftC s
 | [], _ => Nat.le_refl _
 | t :: l, s => by
  unfold markC
  refine Nat.le_trans (left_mark l _) ?_
  split
  ·rw [left_pop]; omega
  ·rw [left_fail (by decide)]; omega
theorem left_end (s : Cur) : leftC (endC s) ≤ leftC s := by
 unfold endC
 split
 ·split
  ·rw [left_pop]; omega
  ·rw [left_fail (by decide)]; omega
 ·exact Nat.le_refl _
theorem left_is {v : Has} {s : Cur} (h : isC v s = true) : 1 ≤ leftC s := by
 unfold isC headC at h
 by_cases he : s.e = 0
 ·rw [if_pos he] at h
  unfold leftC
  rw [if_pos he]
  cases hw : s.ws with
  | nil => rw [hw] at h; cases h
  | cons x l => simp
 ·rw [if_neg he] at h; cases h
theorem left_ends {s : Cur} (h : endsC s = false) : 1 ≤ leftC s := by
 unfold endsC headC at h
 by_cases he : s.e = 0
 ·rw [if_pos he] at h
  unfold leftC
  rw [if_pos he]
  cases hw : s.ws with
  | nil => rw [hw] at h; cases h
  | cons x l => simp
 ·rw [if_neg he] at h; cases h
def kindC : List ByteArray → Nat → Cur → Nat × Cur
 | [], _, s => (0, s)
 | t :: l, k, s => if isC (.nm t) s = true then (k, popC s) else kindC l (k + 1) s
end Go.Proofs.YtljglhaeonbfoaaGreatDoor
namespace Go.Proofs.YtljglhaeonbfoaaGreatDoor
open Go.RowKit
theorem itoa_sz28 (n : Int) (h : InI n) : (itoaB n).size ≤ 21 := by
 have := Lib.itoa_length_le n h.1 h.2
 unfold itoaB
 show (Lib.itoa n).toArray.size ≤ 21
 simpa using this
theorem key_runes28 {c : UInt8} (hc : c.toNat < 128) (n : Nat) : keyB c n = runesBytes (runesOf (c :: Lib.decDigits n)) := by
 apply bytes_ext
 rw [runesOf_bytes]
 ·unfold keyB; simp
 ·intro b hb
  rcases List.mem_cons.1 hb with rfl | hb
  ·exact hc
  ·exact (can_dec n).1.low b hb
theorem right_key28 {c : UInt8} (hc : c.toNat < 128) (hl : isL (c.toNat : Int) = true) {n : Nat} (hn : n < 1000) : rightW (nmW (keyB c n)) = true := by
 have hld : ∀ x ∈ runesOf (c :: Lib.decDigits n), isLD x = true := by
  intro x hx
  rw [show runesOf (c :: Lib.decDigits n) = (c.toNat : Int) :: runesOf (Lib.decDigits n) from rfl] at hx
  rcases List.mem_cons.1 hx with rfl | hx
  ·unfold isLD; rw [hl]; rfl
  ·have := (can_dec n).1.isD x hx
   unfold isLD; rw [this]; simp
 have hi : items (keyB c n) 0 = runesOf (c :: Lib.decDigits n) := by
  rw [key_runes28 hc]
  exact items_of_runes _ fun x hx => LD_VR (hld x hx)
 unfold rightW
 rw [if_pos rfl]
 show ((0 : Int) == 0 && isNameR 0 (items (keyB c n) 0)) = true
 rw [hi, (isNameR_iff _ 0).2 ⟨fun _ => by show isL (c.toNat : Int) = true; exact hl, hld, by simp [runesOf], by
  have := dec_len4 hn
  simp only [runesOf, List.map_cons, List.length_cons, List.length_map]
  omega⟩]
 rfl
theorem loop_sim28 {σ : Type} {go : σ → Option σ} (R : σ → σ → Prop) (hgo : ∀ x y, R x y → (go x = none ∧ go y = none) ∨ ∃ x' y', go x = some x' ∧ go y = some y' ∧ R x' y') : ∀ (f : Nat) {x y : σ}, R x y → R (loopC go f x) (loopC go f y)
 | 0, _, _, h => h
 | f + 1, x, y, h => by
  rcases hgo x y h with ⟨h1, h2⟩ | ⟨x', y', h1, h2, h3⟩
  ·rw [loop_none h1, loop_none h2]; exact h
  ·rw [loop_some h1, loop_some h2]; exact loop_sim28 R hgo f h3
theorem run_sim28 {σ : Type} {go : σ → Option σ} {μ : σ → Nat} (R : σ → σ → Prop) (hgo : ∀ x y, R x y → (go x = none ∧ go y = none) ∨ ∃ x' y', go x = some x' ∧ go y = some y' ∧ R x' y') (hμ : ∀ x y, R x y → μ x = μ y) {x y : σ} (h : R x y) : R (runC go μ x) (runC go μ y) := by
 unfold runC
 rw [hμ x y h]
 exact loop_sim28 R hgo _ h
section
variable {a b : Cur}
theorem CurSim.ends28 (h : CurSim a b) : endsC a = endsC b := by
 unfold endsC
 rcases h.head with ⟨h1, h2⟩ | ⟨x, y, h1, h2, h3⟩
 ·rw [h1, h2]
 ·rw [h1, h2]; simp only [(core_parts h3).1]
theorem CurSim.peek28 (h : CurSim a b) : peekC a = peekC b := by
 unfold peekC
 rcases h.head with ⟨h1, h2⟩ | ⟨x, y, h1, h2, h3⟩
 ·rw [h1, h2]
 ·rw [h1, h2]; simp only [(core_parts h3).1, (core_parts h3).2.1]
theorem CurSim.left28 (h : CurSim a b) : leftC a = leftC b := by
 have h1 := congrArg List.length h.1
 rw [List.length_map, List.length_map] at h1
 unfold leftC
 rw [h.2, h1]
end
theorem kind_sim28 : ∀ (l : List ByteArray) (k : Nat) {a b : Cur}, CurSim a b → (kindC l k a).1 = (kindC l k b).1 ∧ CurSim (kindC l k a).2 (kindC l k b).2
 | [], _, _, _, h => ⟨rfl, h⟩
 | t :: l, k, a, b, h => by
  unfold kindC
  rw [h.is]
  split
  ·exact ⟨rfl, h.pop⟩
  ·exact kind_sim28 l (k + 1) h
def SimL28 {α : Type} (x y : α × Cur) : Prop := x.1 = y.1 ∧ CurSim x.2 y.2
theorem fail_e28 {x : Int} (hx : x ≠ 0) (s : Cur) : (failC x s).e ≠ 0 := by
 unfold failC
 split
 ·rename_i h; rcases h with h | h; exact h; exact absurd h hx
 ·split <;> exact hx
theorem num_ok28 {lo hi : Int} {s : Cur} (h : (numC lo hi s).2.e = 0) : s.e = 0 ∧ lo ≤ (numC lo hi s).1 ∧ (numC lo hi s).1 ≤ hi ∧ leftC (numC lo hi s).2 + 1 = leftC s := by
 unfold numC headC at h ⊢
 by_cases he : s.e = 0
 ·rw [if_pos he] at h ⊢
  cases hw : s.ws with
  | nil => rw [hw] at h; exact absurd h (fail_e28 (by decide) s)
  | cons w l =>
   rw [hw] at h
   simp only [List.head?_cons] at h ⊢
   by_cases hk : w.kind = 2
   ·rw [if_pos hk] at h ⊢
    by_cases hr : w.n < lo ∨ hi < w.n
    ·rw [if_pos hr] at h; exact absurd h (fail_e28 (by decide) s)
    ·rw [if_neg hr]
     refine ⟨he, by omega, by omega, ?_⟩
     unfold leftC popC
     simp only
     rw [if_pos he, if_pos he, hw]
     rfl
   ·rw [if_neg hk] at h; exact absurd h (fail_e28 (by decide) s)
 ·rw [if_neg he] at h; exact absurd h (fail_e28 (by decide) s)
theorem name_ok28 {s : Cur} (h : (nameC s).2.e = 0) : s.e = 0 ∧ leftC (nameC s).2 + 1 = leftC s := by
 unfold nameC headC at h ⊢
 by_cases he : s.e = 0
 ·rw [if_pos he] at h ⊢
  cases hw : s.ws with
  | nil => rw [hw] at h; exact absurd h (fail_e28 (by decide) s)
  | cons w l =>
   rw [hw] at h
   simp only [List.head?_cons] at h ⊢
   by_cases hk : w.kind = 1
   ·rw [if_pos hk]
    refine ⟨he, ?_⟩
    unfold leftC popC
    simp only
    rw [if_pos he, if_pos he, hw]
    rfl
   ·rw [if_neg hk] at h; exact absurd h (fail_e28 (by decide) s)
 ·rw [if_neg he] at h; exact absurd h (fail_e28 (by decide) s)
theorem pop_left28 {v : Has} {s : Cur} (h : isC v s = true) : s.e = 0 ∧ leftC (popC s) + 1 = leftC s := by
 have h1 := left_is h
 have h2 := left_pop s
 refine ⟨?_, by omega⟩
 unfold isC headC at h
 by_cases he : s.e = 0
 ·exact he
 ·rw [if_neg he] at h; cases h
theorem mark_ok28 {t : ByteArray} {s : Cur} (h : (markC [t] s).e = 0) : s.e = 0 ∧ leftC (markC [t] s) + 1 = leftC s := by
 unfold markC markC at h ⊢
 by_cases hi : isC (.mk t) s = true
 ·rw [if_pos hi] at h ⊢
  exact pop_left28 hi
 ·rw [if_neg hi] at h; exact absurd h (fail_e28 (by decide) s)
theorem end_ok28 {s : Cur} (h : (endC s).e = 0) : s.e = 0 ∧ leftC (endC s) ≤ leftC s := by
 refine ⟨?_, left_end s⟩
 unfold endC at h
 split at h
 ·split at h
  ·exact h
  ·exact absurd h (fail_e28 (by decide) s)
 ·exact h
theorem kind_ok28 : ∀ (l : List ByteArray) (k : Nat) (s : Cur), (kindC l k s).2.e = s.e ∧ ((kindC l k s).1 = 0 ∨ (k ≤ (kindC l k s).1 ∧ (kindC l k s).1 < k + l.length ∧ leftC (kindC l k s).2 + 1 = leftC s))
 | [], _, _ => ⟨rfl, .inl rfl⟩
 | t :: l, k, s => by
  unfold kindC
  by_cases hi : isC (.nm t) s = true
  ·rw [if_pos hi]
   exact ⟨rfl, .inr ⟨Nat.le_refl _, by simp, (pop_left28 hi).2⟩⟩
  ·rw [if_neg hi]
   obtain ⟨h1, h2⟩ := kind_ok28 l (k + 1) s
   refine ⟨h1, ?_⟩
   rcases h2 with h2 | ⟨h2, h3, h4⟩
   ·exact .inl h2
   ·exact .inr ⟨by omega, by simp only [List.length_cons]; omega, h4⟩
theorem Lexes.len28 {line col : Int} {rem : Bool} {L : List Int} {ws : List Word} (h : Lexes line col rem L ws) : ws.length ≤ L.length := by
 induction h with
 | nil => exact Nat.le_refl _
 | nl line col rem t ws h ih => simp only [List.length_cons]; omega
 | skip line col rem c t ws h0 h10 hs h ih => simp only [List.length_cons]; omega
 | num line col t l ws ht hb hl h ih => have := ht.ne; rw [List.length_append, List.length_cons]; omega
 | name line col t l ws h1 h2 h16 hl h ih =>
  have : 0 < t.length := by cases t <;> simp_all [headL]
  rw [List.length_append, List.length_cons]; omega
 | sign line col c t ws hs h ih => simp only [List.length_cons]; omega
theorem itemsF_len28 (s : ByteArray) : ∀ (f pos : Nat), (itemsF s f pos).length ≤ f
 | 0, _ => Nat.le_refl _
 | f + 1, pos => by
  unfold itemsF
  split
  ·split
   ·have := itemsF_len28 s f (pos + (Utf8.decode s pos).2); rw [List.length_cons]; omega
   ·simp
  ·exact Nat.zero_le _
theorem over_left28 (s : ByteArray) : leftC (overT s) ≤ s.size := by
 have h0 : (readR s).words.length ≤ s.size := by
  by_cases he : (readR s).err = 0
  ·obtain ⟨ws, hw, hR, _⟩ := read_lexes he
   rw [hR]
   have h1 := hw.len28
   have h2 : (items s 0).length ≤ s.size - 0 := itemsF_len28 s _ _
   show ws.length ≤ _; omega
  ·rw [(read_err s he).1]; simp
 have h1 : (overT s).ws.length ≤ s.size := by
  unfold overT
  split
  ·exact Nat.zero_le _
  ·have h2 := compK_len (readR s).words true
   have h3 : (dropEnd (compK true (readR s).words)).length ≤ (compK true (readR s).words).length := by
    unfold dropEnd
    split
    ·split
     ·simp
     ·exact Nat.le_refl _
    ·exact Nat.le_refl _
   simp only
   omega
 unfold leftC
 split <;> omega
end Go.Proofs.YtljglhaeonbfoaaGreatDoor
namespace Go.Proofs.YtljglhaeonbfoaaGreatDoor
def wxb1 (b : UInt8) : List UInt8 := if b = 10 then [10, 32, 59, 32, 226, 134, 144, 32, 206, 177, 10, 10, 9] else if b = 32 then [32, 9, 32] else [b]
def wxB (l : List UInt8) : List UInt8 := l.flatMap wxb1
theorem wxB_append (a b : List UInt8) : wxB (a ++ b) = wxB a ++ wxB b := by unfold wxB; rw [List.flatMap_append]
theorem wxB_cons (b : UInt8) (l : List UInt8) : wxB (b :: l) = wxb1 b ++ wxB l := by unfold wxB; rw [List.flatMap_cons]
theorem wxB_keep : ∀ (t : List UInt8), (∀ x ∈ t, x ≠ 10 ∧ x ≠ 32) → wxB t = t
 | [], _ => rfl
 | b :: t, h => by rw [wxB_cons, wxB_keep t fun x hx => h x (by simp [hx])]; unfold wxb1; rw [if_neg (h b (by simp)).1, if_neg (h b (by simp)).2]; rfl
def wxT (s : ByteArray) : ByteArray := mkB (wxB s.data.toList)
end Go.Proofs.YtljglhaeonbfoaaGreatDoor
