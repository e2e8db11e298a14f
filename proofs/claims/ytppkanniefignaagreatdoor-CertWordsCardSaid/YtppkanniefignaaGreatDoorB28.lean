/- law28: certificates as plain data: what words name, what a text tells, which of two facts is ahead. -/
import Derived.Test.YtppkanniefignaaGreatDoorG15
import Derived.Test.YtppkanniefignaaGreatDoorG12
import Derived.Test.YtppkanniefignaaGreatDoorL2i
import Derived.Test.YtppkanniefignaaGreatDoorG11
set_option linter.unusedSimpArgs false
set_option linter.unusedVariables false
namespace Go.Proofs.YtppkanniefignaaGreatDoor
def digW (b : UInt8) : Bool := decide (48 ≤ b.toNat) && decide (b.toNat ≤ 57)
def numW (c : UInt8) (most : Nat) (s : ByteArray) : Option Nat :=
 match s.data.toList with
 | [] => none
 | x :: l => if (x == c && !l.isEmpty && decide (l.length ≤ 4) && l.all digW && (decide (l.length = 1) || !(l.head? == some 48)) && decide (spell 0 l < most)) = true then some (spell 0 l) else none
def keyB (c : UInt8) (n : Nat) : ByteArray := ⟨(c :: Lib.decDigits n).toArray⟩
theorem keyB_itoa (c : UInt8) (n : Nat) : (⟨#[c]⟩ : ByteArray) ++ itoaB (n : Int) = keyB c n := by
 apply bytes_ext
 unfold itoaB keyB
 rw [Lib.itoa_nonneg]
 simp
theorem head_dec : ∀ (u : Nat), 1 ≤ u → (Lib.decDigits u).head? ≠ some 48 := by
 intro u
 induction u using Nat.strongRecOn with
 | _ u ih =>
  intro h1
  by_cases h : u < 10
  ·rw [Lib.decDigits_one h]
   intro e
   injection e with e
   have := congrArg UInt8.toNat e
   rw [ofNat_toNat (by omega)] at this
   simp at this
   omega
  ·rw [Lib.decDigits, dif_neg h]
   have i3 := (can_dec (u / 10)).2.2
   have := ih (u / 10) (by omega) (by omega)
   cases hd : Lib.decDigits (u / 10) with
   | nil => exact absurd hd i3
   | cons x l => rw [hd] at this; simpa using this
theorem dec_len {u : Nat} : (Lib.decDigits u).length = if u < 10 then 1 else (Lib.decDigits (u / 10)).length + 1 := by
 by_cases h : u < 10
 ·rw [Lib.decDigits_one h, if_pos h]; rfl
 ·rw [Lib.decDigits, dif_neg h, if_neg h, List.length_append]; rfl
theorem dec_len4 {u : Nat} (h : u < 1000) : (Lib.decDigits u).length ≤ 3 := by
 rw [dec_len]
 split
 ·omega
 ·rw [dec_len]
  split
  ·omega
  ·rw [dec_len, if_pos (by omega)]; decide
theorem digW_iff (l : List UInt8) : l.all digW = true ↔ DigB l := by
 unfold digW DigB
 simp
theorem numW_key {c : UInt8} {n most : Nat} (h : n < most) (hm : most ≤ 1000) : numW c most (keyB c n) = some n := by
 obtain ⟨h1, h2, h3⟩ := can_dec n
 have h4 : (Lib.decDigits n).length = 1 ∨ (Lib.decDigits n).head? ≠ some 48 := by
  by_cases h0 : n < 10
  ·exact .inl (by rw [dec_len, if_pos h0])
  ·exact .inr (head_dec n (by omega))
 have h5 := dec_len4 (show n < 1000 by omega)
 unfold numW keyB
 simp only
 rw [if_pos]
 ·rw [h2]
 ·have e1 : (Lib.decDigits n).isEmpty = false := by cases hd : Lib.decDigits n <;> simp_all
  have e2 := (digW_iff _).2 h1
  have e3 : (decide ((Lib.decDigits n).length = 1) || !((Lib.decDigits n).head? == some 48)) = true := by
   rcases h4 with h | h
   ·simp [h]
   ·have : ((Lib.decDigits n).head? == some 48) = false := by simpa using h
    rw [this]; simp
  rw [e1, e2, e3, h2]
  simp
  omega
theorem numW_inv {c : UInt8} {n most : Nat} {s : ByteArray} (h : numW c most s = some n) : s = keyB c n ∧ n < most := by
 unfold numW at h
 split at h
 ·cases h
 ·rename_i x l hl
  split at h
  ·rename_i hc
   injection h with h
   simp only [Bool.and_eq_true, Bool.or_eq_true, decide_eq_true_eq, Bool.not_eq_true', beq_iff_eq, digW_iff] at hc
   obtain ⟨⟨⟨⟨⟨h1, h2⟩, h3⟩, h4⟩, h5⟩, h6⟩ := hc
   have hne : l ≠ [] := by intro e; rw [e] at h2; cases h2
   have hcan := (dec_can l.length l rfl h4 hne (by
    rcases h5 with h5 | h5
    ·exact .inl h5
    ·exact .inr (by simpa using h5))).1
   rw [h] at hcan h6
   refine ⟨?_, h6⟩
   apply bytes_ext
   unfold keyB
   rw [hl, hcan, h1]
  ·cases h
inductive Nm where
 | var (n : Int)
 | loc (l : Loc)
 deriving DecidableEq
def varW (s : ByteArray) : Int :=
 match numW 118 201 s with
 | some (n + 1) => (n + 1 : Nat)
 | _ => match numW 104 64 s with
  | some n => -1 - (n : Int)
  | none => 0
def placeW (s : ByteArray) : Option Loc :=
 match numW 114 64 s with
 | some n => some ⟨false, n⟩
 | none => match numW 115 400 s with
  | some n => some ⟨true, n⟩
  | none => none
def nameW (s : ByteArray) : Option Nm := if varW s ≠ 0 then some (.var (varW s)) else (placeW s).map .loc
def keyN : Nm → ByteArray
 | .var n => if n < 0 then keyB 104 (-1 - n).toNat else keyB 118 n.toNat
 | .loc l => if l.slot = true then keyB 115 l.n.toNat else keyB 114 l.n.toNat
def NmOk : Nm → Prop
 | .var n => (1 ≤ n ∧ n ≤ 200) ∨ (-64 ≤ n ∧ n < 0)
 | .loc l => 0 ≤ l.n ∧ l.n < (if l.slot = true then 400 else 64)
theorem keyN_neg {n : Int} (h : n < 0) : keyN (.var n) = keyB 104 (-1 - n).toNat := if_pos h
theorem keyN_pos {n : Int} (h : ¬ n < 0) : keyN (.var n) = keyB 118 n.toNat := if_neg h
theorem numW_other {c d : UInt8} (h : c ≠ d) (n most : Nat) : numW d most (keyB c n) = none := by
 cases hs : numW d most (keyB c n) with
 | none => rfl
 | some m =>
  have := (numW_inv hs).1
  unfold keyB at this
  have := congrArg (fun b : ByteArray => b.data.toList.head?) this
  simp at this
  exact absurd this h
theorem nameW_key {x : Nm} (h : NmOk x) : nameW (keyN x) = some x := by
 cases x with
 | var n =>
  rcases h with ⟨h1, h2⟩ | ⟨h1, h2⟩
  ·obtain ⟨k, rfl⟩ : ∃ k : Nat, n = ((k + 1 : Nat) : Int) := ⟨(n - 1).toNat, by omega⟩
   have e : keyN (.var ((k + 1 : Nat) : Int)) = keyB 118 (k + 1) := by rw [keyN_pos (by omega)]; rfl
   have hv : varW (keyB 118 (k + 1)) = ((k + 1 : Nat) : Int) := by unfold varW; rw [numW_key (by omega) (by omega)]
   rw [e]
   unfold nameW
   rw [hv, if_pos (by omega)]
  ·obtain ⟨k, rfl⟩ : ∃ k : Nat, n = -1 - (k : Int) := ⟨(-1 - n).toNat, by omega⟩
   have e : keyN (.var (-1 - (k : Int))) = keyB 104 k := by rw [keyN_neg (by omega), show (-1 - (-1 - (k : Int))).toNat = k by omega]
   have hv : varW (keyB 104 k) = -1 - (k : Int) := by unfold varW; rw [numW_other (by decide), numW_key (by omega) (by omega)]
   rw [e]
   unfold nameW
   rw [hv, if_pos (by omega)]
 | loc l =>
  obtain ⟨b, n⟩ := l
  obtain ⟨h1, h2⟩ := h
  simp only at h1 h2
  obtain ⟨k, rfl⟩ : ∃ k : Nat, n = (k : Int) := ⟨n.toNat, by omega⟩
  cases b with
  | true =>
   rw [if_pos rfl] at h2
   have e : keyN (.loc ⟨true, (k : Int)⟩) = keyB 115 k := rfl
   have hv : varW (keyB 115 k) = 0 := by unfold varW; rw [numW_other (by decide), numW_other (by decide)]
   have hp : placeW (keyB 115 k) = some ⟨true, k⟩ := by unfold placeW; rw [numW_other (by decide), numW_key (by omega) (by omega)]
   rw [e]
   unfold nameW
   rw [hv, if_neg (by decide), hp]; rfl
  | false =>
   rw [if_neg (by decide)] at h2
   have e : keyN (.loc ⟨false, (k : Int)⟩) = keyB 114 k := rfl
   have hv : varW (keyB 114 k) = 0 := by unfold varW; rw [numW_other (by decide), numW_other (by decide)]
   have hp : placeW (keyB 114 k) = some ⟨false, k⟩ := by unfold placeW; rw [numW_key (by omega) (by omega)]
   rw [e]
   unfold nameW
   rw [hv, if_neg (by decide), hp]; rfl
theorem nameW_inv {s : ByteArray} {x : Nm} (h : nameW s = some x) : s = keyN x ∧ NmOk x := by
 unfold nameW at h
 split at h
 ·rename_i hv
  injection h with h
  subst h
  unfold varW at hv ⊢
  split
  ·rename_i n hn
   obtain ⟨e, hl⟩ := numW_inv hn
   refine ⟨?_, .inl ⟨by omega, by omega⟩⟩
   rw [keyN_pos (by omega)]
   exact e
  ·rename_i hn
   split at hv
   ·rename_i n hn'
    exact absurd hn' (hn n)
   ·split at hv
    ·rename_i n hn2
     obtain ⟨e, hl⟩ := numW_inv hn2
     refine ⟨?_, .inr ⟨by show -64 ≤ -1 - (n : Int); omega, by show -1 - (n : Int) < 0; omega⟩⟩
     show s = keyN (.var (-1 - (n : Int)))
     rw [keyN_neg (by omega), show (-1 - (-1 - (n : Int))).toNat = n by omega]
     exact e
    ·exact absurd rfl hv
 ·unfold placeW at h
  split at h
  ·rename_i n hn
   obtain ⟨e, hl⟩ := numW_inv hn
   injection h with h
   subst h
   exact ⟨e, by show (0 : Int) ≤ (n : Int); omega, by show (n : Int) < 64; omega⟩
  ·split at h
   ·rename_i n hn
    obtain ⟨e, hl⟩ := numW_inv hn
    injection h with h
    subst h
    exact ⟨e, by show (0 : Int) ≤ (n : Int); omega, by show (n : Int) < 400; omega⟩
   ·cases h
theorem nameW_loc (s : ByteArray) : (match nameW s with | some (.loc l) => some l | _ => none) = placeW s := by
 unfold nameW
 by_cases h : varW s ≠ 0
 ·rw [if_pos h]
  cases hp : placeW s with
  | none => rfl
  | some l =>
   exfalso
   unfold placeW at hp
   have key : ∀ n c, s = keyB c n → c ≠ 118 → c ≠ 104 → varW s = 0 := fun n c e h1 h2 => by
    rw [e]; unfold varW; rw [numW_other h1, numW_other h2]
   split at hp
   ·rename_i n hn
    exact h (key n 114 (numW_inv hn).1 (by decide) (by decide))
   ·split at hp
    ·rename_i n hn
     exact h (key n 115 (numW_inv hn).1 (by decide) (by decide))
    ·cases hp
 ·rw [if_neg h]
  cases placeW s <;> rfl
def cmpI (a b : Int) : Int := if a < b then -1 else if b < a then 1 else 0
def sortF (f : Fact) : Int := if f.loc.slot = true then 1 else 0
def ordF (a b : Fact) : Int := if cmpI a.var b.var ≠ 0 then cmpI a.var b.var else if cmpI (sortF a) (sortF b) ≠ 0 then cmpI (sortF a) (sortF b) else cmpI a.loc.n b.loc.n
def aheadF (a b : Fact) : Bool := decide (ordF a b < 0)
def aheadD (a b : Fact) : Bool := if a.var ≠ b.var then decide (a.var < b.var) else if a.loc.slot ≠ b.loc.slot then b.loc.slot else decide (a.loc.n < b.loc.n)
theorem cmpI_ne {a b : Int} : cmpI a b ≠ 0 ↔ a ≠ b := by
 unfold cmpI; split; omega; split <;> omega
theorem cmpI_lt {a b : Int} : cmpI a b < 0 ↔ a < b := by
 unfold cmpI; split; omega; split <;> omega
theorem ahead_eq (a b : Fact) : aheadF a b = aheadD a b := by
 obtain ⟨v, ⟨s, n⟩⟩ := a
 obtain ⟨v', ⟨s', n'⟩⟩ := b
 unfold aheadF aheadD ordF
 simp only
 by_cases h : v = v'
 ·subst h
  have c0 : cmpI v v = 0 := by unfold cmpI; simp
  have c1 : cmpI 0 0 = 0 := rfl
  have c2 : cmpI 1 1 = 0 := rfl
  have c3 : cmpI 0 1 = -1 := rfl
  have c4 : cmpI 1 0 = 1 := rfl
  cases s <;> cases s' <;> simp [c0, sortF, c1, c2, c3, c4, cmpI_lt]
 ·have h1 := cmpI_ne.2 h
  rw [if_pos h1, if_pos h]; exact decide_eq_decide.2 cmpI_lt
def loopC {σ : Type} (go : σ → Option σ) : Nat → σ → σ
 | 0, x => x
 | f + 1, x => match go x with
  | none => x
  | some y => loopC go f y
def runC {σ : Type} (go : σ → Option σ) (μ : σ → Nat) (x : σ) : σ := loopC go (μ x) x
section
variable {σ : Type} {go : σ → Option σ} {μ : σ → Nat}
theorem loop_none {f : Nat} {x : σ} (h : go x = none) : loopC go (f + 1) x = x := by
 show (match go x with | none => x | some y => loopC go f y) = x
 rw [h]
theorem loop_some {f : Nat} {x y : σ} (h : go x = some y) : loopC go (f + 1) x = loopC go f y := by
 show (match go x with | none => x | some y => loopC go f y) = _
 rw [h]
theorem loop_more (hd : ∀ x y, go x = some y → μ y < μ x) : ∀ (f g : Nat) (x : σ), μ x ≤ f → μ x ≤ g → loopC go f x = loopC go g x
 | 0, 0, _, _, _ => rfl
 | 0, g + 1, x, h, _ => by
  show x = match go x with | none => x | some y => loopC go g y
  cases hg : go x with
  | none => rfl
  | some y => have := hd x y hg; omega
 | f + 1, 0, x, _, h => by
  show (match go x with | none => x | some y => loopC go f y) = x
  cases hg : go x with
  | none => rfl
  | some y => have := hd x y hg; omega
 | f + 1, g + 1, x, h1, h2 => by
  show (match go x with | none => x | some y => loopC go f y) = match go x with | none => x | some y => loopC go g y
  cases hg : go x with
  | none => rfl
  | some y => have := hd x y hg; exact loop_more hd f g y (by omega) (by omega)
theorem run_go (hd : ∀ x y, go x = some y → μ y < μ x) {x y : σ} (h : go x = some y) : runC go μ x = runC go μ y := by
 have := hd x y h
 unfold runC
 obtain ⟨k, hk⟩ : ∃ k, μ x = k + 1 := ⟨μ x - 1, by omega⟩
 rw [hk]
 show (match go x with | none => x | some y => loopC go k y) = _
 rw [h]
 exact loop_more hd _ _ y (by omega) (Nat.le_refl _)
theorem run_stop {x : σ} (h : go x = none) : runC go μ x = x := by
 unfold runC
 cases μ x with
 | zero => rfl
 | succ k => show (match go x with | none => x | some y => loopC go k y) = x; rw [h]
end
def leftC (s : Cur) : Nat := if s.e = 0 then s.ws.length else 0
theorem left_fail {x : Int} (hx : x ≠ 0) (s : Cur) : leftC (failC x s) = 0 := by
 unfold failC
 by_cases h : s.e ≠ 0 ∨ x = 0
 ·rw [if_pos h]
  unfold leftC
  rw [if_neg (by rcases h with h | h; exact h; exact absurd h hx)]
 ·rw [if_neg h]
  split <;> (unfold leftC; rw [if_neg hx])
theorem left_pop (s : Cur) : leftC (popC s) = leftC s - 1 := by
 unfold leftC popC
 simp only
 split
 ·rw [List.length_tail]
 ·rfl
theorem left_num (lo hi : Int) (s : Cur) : leftC (numC lo hi s).2 ≤ leftC s - 1 := by
 unfold numC
 split
 ·split
  ·split
   ·rw [left_fail (by decide)]; omega
   ·rw [left_pop]; omega
  ·rw [left_fail (by decide)]; omega
 ·rw [left_fail (by decide)]; omega
theorem left_name (s : Cur) : leftC (nameC s).2 ≤ leftC s - 1 := by
 unfold nameC
 split
 ·split
  ·rw [left_pop]; omega
  ·rw [left_fail (by decide)]; omega
 ·rw [left_fail (by decide)]; omega
theorem left_mark : ∀ (l : List ByteArray) (s : Cur), leftC (markC l s) ≤ leftC s
 | [], _ => Nat.le_refl _
 | t :: l, s => by
  unfold markC
  refine Nat.le_trans (left_mark l _) ?_
  split
  ·rw [left_pop]; omega
  ·rw [left_fail (by decide)]; omega
theorem left_end (s : Cur) : leftC (endC s) ≤ leftC s := by
 unfold endC
 split
 ·split
  ·rw [left_pop]; omega
  ·rw [left_fail (by decide)]; omega
 ·exact Nat.le_refl _
def unlessC (b : Bool) (x : Int) (s : Cur) : Cur := if b = true then s else failC x s
theorem left_unless {x : Int} (hx : x ≠ 0) (b : Bool) (s : Cur) : leftC (unlessC b x s) ≤ leftC s := by
 unfold unlessC
 split
 ·exact Nat.le_refl _
 ·rw [left_fail hx]; omega
theorem left_is {v : Has} {s : Cur} (h : isC v s = true) : 1 ≤ leftC s := by
 unfold isC headC at h
 by_cases he : s.e = 0
 ·rw [if_pos he] at h
  unfold leftC
  rw [if_pos he]
  cases hw : s.ws with
  | nil => rw [hw] at h; cases h
  | cons x l => simp
 ·rw [if_neg he] at h; cases h
theorem left_ends {s : Cur} (h : endsC s = false) : 1 ≤ leftC s := by
 unfold endsC headC at h
 by_cases he : s.e = 0
 ·rw [if_pos he] at h
  unfold leftC
  rw [if_pos he]
  cases hw : s.ws with
  | nil => rw [hw] at h; cases h
  | cons x l => simp
 ·rw [if_neg he] at h; cases h
def tColon : ByteArray := ⟨#[58]⟩
def tComma : ByteArray := ⟨#[44]⟩
def tEq : ByteArray := ⟨#[61]⟩
def tTile : ByteArray := ⟨#[116, 105, 108, 101]⟩
def tEdge : ByteArray := ⟨#[101, 100, 103, 101]⟩
def kindsB : List ByteArray := [⟨#[114, 111, 111, 116]⟩, ⟨#[108, 111, 111, 112]⟩, ⟨#[114, 101, 103, 105, 111, 110]⟩, ⟨#[99, 111, 110, 100]⟩]
def kindC : List ByteArray → Nat → Cur → Nat × Cur
 | [], _, s => (0, s)
 | t :: l, k, s => if isC (.nm t) s = true then (k, popC s) else kindC l (k + 1) s
theorem left_kind : ∀ (l : List ByteArray) (k : Nat) (s : Cur), leftC (kindC l k s).2 ≤ leftC s
 | [], _, _ => Nat.le_refl _
 | t :: l, k, s => by
  unfold kindC
  split
  ·rw [left_pop]; omega
  ·exact left_kind l (k + 1) s
def blockG (x : List Int × Cur) : Option (List Int × Cur) :=
 if endsC x.2 = true then none else some (x.1 ++ [(numC 0 199 (unlessC (decide (x.1.length < 200)) 3 x.2)).1], (numC 0 199 (unlessC (decide (x.1.length < 200)) 3 x.2)).2)
theorem blockG_dec (x y : List Int × Cur) (h : blockG x = some y) : leftC y.2 < leftC x.2 := by
 unfold blockG at h
 split at h
 ·cases h
 ·rename_i he
  injection h with h
  subst h
  have h1 := left_ends (by simpa using he)
  have h2 := left_num 0 199 (unlessC (decide (x.1.length < 200)) 3 x.2)
  have h3 := left_unless (x := 3) (by decide) (decide (x.1.length < 200)) x.2
  simp only
  omega
def blocksC (x : List Int × Cur) : List Int × Cur := runC blockG (fun x => leftC x.2) x
theorem blocksC_go {x y : List Int × Cur} (h : blockG x = some y) : blocksC x = blocksC y := run_go blockG_dec h
theorem blocksC_stop {x : List Int × Cur} (h : blockG x = none) : blocksC x = x := run_stop h
def tileC (s : Cur) : Tile × Cur :=
 let k := kindC kindsB 1 s
 let p := numC (-1) 199 (unlessC (k.1 != 0) 7 k.2)
 let b := blocksC ([], markC [tColon] p.2)
 (⟨(k.1 : Int), p.1, b.1⟩, endC b.2)
theorem left_blocks : ∀ (f : Nat) (x : List Int × Cur), leftC (loopC blockG f x).2 ≤ leftC x.2
 | 0, _ => Nat.le_refl _
 | f + 1, x => by
  cases h : blockG x with
  | none => rw [loop_none h]; exact Nat.le_refl _
  | some y => rw [loop_some h]; exact Nat.le_trans (left_blocks f y) (Nat.le_of_lt (blockG_dec x y h))
theorem left_tile (s : Cur) : leftC (tileC s).2 ≤ leftC s := by
 unfold tileC
 simp only
 refine Nat.le_trans (left_end _) (Nat.le_trans (left_blocks _ _) (Nat.le_trans (left_mark _ _) (Nat.le_trans (left_num _ _ _) ?_)))
 have h1 := left_unless (x := 7) (by decide) ((kindC kindsB 1 s).1 != 0) (kindC kindsB 1 s).2
 have h2 := left_kind kindsB 1 s
 omega
def lastOk (l : List Fact) (f : Fact) : Bool := match l.getLast? with
 | none => true
 | some g => aheadF g f
def factC (l : List Fact) (s : Cur) : Fact × Cur :=
 let s1 := unlessC (decide (l.length < 600)) 3 s
 let s2 := unlessC (varW (peekC s1) != 0) 7 s1
 let s4 := markC [tEq] (nameC s2).2
 let f : Fact := ⟨varW (peekC s1), (placeW (peekC s4)).getD ⟨false, 0⟩⟩
 (f, (nameC (unlessC ((placeW (peekC s4)).isSome && lastOk l f) 7 s4)).2)
theorem left_fact (l : List Fact) (s : Cur) : leftC (factC l s).2 ≤ leftC s := by
 unfold factC
 simp only
 refine Nat.le_trans (left_name _) (Nat.le_trans (Nat.sub_le _ _) (Nat.le_trans (left_unless (by decide) _ _) (Nat.le_trans (left_mark _ _) (Nat.le_trans (left_name _) (Nat.le_trans (Nat.sub_le _ _) (Nat.le_trans (left_unless (by decide) _ _) (left_unless (by decide) _ _)))))))
def factG (x : (List Fact × Bool) × Cur) : Option ((List Fact × Bool) × Cur) :=
 if x.1.2 = true then
  let r := factC x.1.1 x.2
  some ((x.1.1 ++ [r.1], isC (.mk tComma) r.2), overC (isC (.mk tComma) r.2) r.2)
 else none
def factM (x : (List Fact × Bool) × Cur) : Nat := leftC x.2 + (if x.1.2 = true then 1 else 0)
theorem factG_dec (x y : (List Fact × Bool) × Cur) (h : factG x = some y) : factM y < factM x := by
 unfold factG at h
 split at h
 ·rename_i hm
  injection h with h
  subst h
  have h1 := left_fact x.1.1 x.2
  unfold factM
  rw [if_pos hm]
  simp only
  generalize (factC x.1.1 x.2).2 = s at h1
  unfold overC
  by_cases hc : isC (.mk tComma) s = true
  ·rw [if_pos hc, if_pos hc, left_pop]
   have := left_is hc
   omega
  ·rw [if_neg hc, if_neg hc]; omega
 ·cases h
def factsL (x : (List Fact × Bool) × Cur) : (List Fact × Bool) × Cur := runC factG factM x
theorem factsL_go {x y : (List Fact × Bool) × Cur} (h : factG x = some y) : factsL x = factsL y := run_go factG_dec h
theorem factsL_stop {x : (List Fact × Bool) × Cur} (h : factG x = none) : factsL x = x := run_stop h
theorem left_facts : ∀ (f : Nat) (x : (List Fact × Bool) × Cur), leftC (loopC factG f x).2 ≤ leftC x.2
 | 0, _ => Nat.le_refl _
 | f + 1, x => by
  cases h : factG x with
  | none => rw [loop_none h]; exact Nat.le_refl _
  | some y =>
   rw [loop_some h]
   refine Nat.le_trans (left_facts f y) ?_
   unfold factG at h
   split at h
   ·injection h with h
    subst h
    have h1 := left_fact x.1.1 x.2
    simp only
    generalize (factC x.1.1 x.2).2 = s at h1
    unfold overC
    split
    ·rw [left_pop]; omega
    ·exact h1
   ·cases h
def factsC (s : Cur) : List Fact × Cur :=
 let r := factsL (([], !endsC s), s)
 (r.1.1, endC r.2)
theorem left_factsC (s : Cur) : leftC (factsC s).2 ≤ leftC s := Nat.le_trans (left_end _) (left_facts _ _)
def tilesG (x : List Tile × Cur) : Option (List Tile × Cur) :=
 if isC (.nm tTile) x.2 = true then
  let r := tileC (unlessC (decide (x.1.length < 200)) 3 (popC x.2))
  some (x.1 ++ [r.1], r.2)
 else none
theorem tilesG_dec (x y : List Tile × Cur) (h : tilesG x = some y) : leftC y.2 < leftC x.2 := by
 unfold tilesG at h
 split at h
 ·rename_i hi
  injection h with h
  subst h
  have h1 := left_is hi
  have h2 := left_tile (unlessC (decide (x.1.length < 200)) 3 (popC x.2))
  have h3 := left_unless (x := 3) (by decide) (decide (x.1.length < 200)) (popC x.2)
  rw [left_pop] at h3
  simp only
  omega
 ·cases h
def tilesC (x : List Tile × Cur) : List Tile × Cur := runC tilesG (fun x => leftC x.2) x
theorem tilesC_go {x y : List Tile × Cur} (h : tilesG x = some y) : tilesC x = tilesC y := run_go tilesG_dec h
theorem tilesC_stop {x : List Tile × Cur} (h : tilesG x = none) : tilesC x = x := run_stop h
def edgesG (x : List (List Fact) × Cur) : Option (List (List Fact) × Cur) :=
 if isC (.nm tEdge) x.2 = true then
  let r := factsC (unlessC (decide (x.1.length < 400)) 3 (popC x.2))
  some (x.1 ++ [r.1], r.2)
 else none
theorem edgesG_dec (x y : List (List Fact) × Cur) (h : edgesG x = some y) : leftC y.2 < leftC x.2 := by
 unfold edgesG at h
 split at h
 ·rename_i hi
  injection h with h
  subst h
  have h1 := left_is hi
  have h2 := left_factsC (unlessC (decide (x.1.length < 400)) 3 (popC x.2))
  have h3 := left_unless (x := 3) (by decide) (decide (x.1.length < 400)) (popC x.2)
  rw [left_pop] at h3
  simp only
  omega
 ·cases h
def edgesC (x : List (List Fact) × Cur) : List (List Fact) × Cur := runC edgesG (fun x => leftC x.2) x
theorem edgesC_go {x y : List (List Fact) × Cur} (h : edgesG x = some y) : edgesC x = edgesC y := run_go edgesG_dec h
theorem edgesC_stop {x : List (List Fact) × Cur} (h : edgesG x = none) : edgesC x = x := run_stop h
def certC (s : Cur) : Cert × Cur := (⟨(tilesC ([], s)).1, (edgesC ([], (tilesC ([], s)).2)).1⟩, (edgesC ([], (tilesC ([], s)).2)).2)
def parse28 (s : ByteArray) : Cert × Int × Int × Int :=
 if 262144 < s.size then (⟨[], []⟩, 0, 0, 3)
 else if (errC (certC (overT s)).2).2.2 ≠ 0 then (⟨[], []⟩, errC (certC (overT s)).2) else ((certC (overT s)).1, 0, 0, 0)
end Go.Proofs.YtppkanniefignaaGreatDoor
