/- law04: functions as plain data: what a text tells, by the program's way and the document's: they are one. law04: plain: what can be written; its text's words are read. law04: plain: what is shown of a right function is read as it. law04: plain: cursors that differ in places alone tell the same function; what is shown is read. law04: plain: what is read can be written. law04: plain: what is read can be written, and tells the same again. law04: plain: what is shown is read, of a text with more blanks, ends, remarks too. law04: plain: a text of one block with a line less, or two, tells none. law04: plain: a word more behind a function's text, and it is none: where the error is. law04: plain: what can be written, as a Bool. law04: plain: what ir.Right says of what cannot be written. -/
import Derived.Test.YtljglhaeonbfoaaGreatDoorG18
import Derived.Test.YtljglhaeonbfoaaGreatDoorG20
import Derived.Test.YtljglhaeonbfoaaGreatDoorG17
set_option linter.unusedSimpArgs false
set_option linter.unusedVariables false
namespace Go.Proofs.YtljglhaeonbfoaaGreatDoor
def vW (s : ByteArray) : Int := match numW 118 201 s with
 | some n => (n : Int)
 | none => 0
theorem vW_key {n : Nat} (h : n ≤ 200) : vW (keyB 118 n) = n := by unfold vW; rw [numW_key (by omega) (by omega)]
theorem vW_inv {s : ByteArray} (h : vW s ≠ 0) : ∃ n : Nat, 1 ≤ n ∧ n ≤ 200 ∧ s = keyB 118 n ∧ vW s = n := by
 unfold vW at h ⊢
 cases hn : numW 118 201 s with
 | none => rw [hn] at h; exact absurd rfl h
 | some n =>
  rw [hn] at h
  obtain ⟨e, hl⟩ := numW_inv hn
  exact ⟨n, by have h : (n : Int) ≠ 0 := h; omega, by omega, e, rfl⟩
theorem vW_in (s : ByteArray) : 0 ≤ vW s ∧ vW s ≤ 200 := by
 by_cases h : vW s = 0
 ·omega
 ·obtain ⟨n, h1, h2, _, h4⟩ := vW_inv h
  omega
def tFun : ByteArray := ⟨#[102, 117, 110]⟩
def tBlock : ByteArray := ⟨#[98, 108, 111, 99, 107]⟩
def tTrap : ByteArray := ⟨#[116, 114, 97, 112]⟩
def tReturn : ByteArray := ⟨#[114, 101, 116, 117, 114, 110]⟩
def tStore : ByteArray := ⟨#[115, 116, 111, 114, 101]⟩
def tCall : ByteArray := ⟨#[99, 97, 108, 108]⟩
def tConst : ByteArray := ⟨#[99, 111, 110, 115, 116]⟩
def tLoad : ByteArray := ⟨#[108, 111, 97, 100]⟩
def tLeft : ByteArray := ⟨#[226, 134, 144]⟩
def tArrow : ByteArray := ⟨#[226, 134, 146]⟩
def opsB : List ByteArray := [⟨#[97, 100, 100]⟩, ⟨#[115, 117, 98]⟩, ⟨#[109, 117, 108]⟩, ⟨#[100, 105, 118]⟩, ⟨#[97, 110, 100]⟩, ⟨#[111, 114]⟩, ⟨#[120, 111, 114]⟩, ⟨#[108, 101, 115, 115]⟩, ⟨#[115, 97, 109, 101]⟩]
def varC (s : Cur) : Int × Cur := if vW (peekC s) = 0 then (0, failC 7 s) else (vW (peekC s), (nameC s).2)
theorem left_var (s : Cur) : leftC (varC s).2 ≤ leftC s - 1 := by
 unfold varC
 split
 ·rw [left_fail (by decide)]; omega
 ·exact left_name s
def someG (q u : Bool) (x : List Int × Cur) : Option (List Int × Cur) :=
 if endsC x.2 = true then none
 else if x.1.length = 8 then some (if q = true then [] else x.1, failC 3 x.2)
 else if u = true ∧ x.1.contains (vW (peekC x.2)) = true then some (if q = true then x.1 ++ [0] else x.1, failC 7 x.2)
 else some (x.1 ++ [(varC x.2).1], (varC x.2).2)
theorem someG_dec {q u : Bool} (x y : List Int × Cur) (h : someG q u x = some y) : leftC y.2 < leftC x.2 := by
 unfold someG at h
 split at h
 ·cases h
 ·rename_i he
  have h1 := left_ends (by simpa using he)
  split at h
  ·injection h with h; subst h
   rw [left_fail (by decide)]; omega
  ·split at h
   ·injection h with h; subst h
    rw [left_fail (by decide)]; omega
   ·injection h with h; subst h
    have := left_var x.2
    simp only
    omega
def someC (q u : Bool) (x : List Int × Cur) : List Int × Cur := runC (someG q u) (fun x => leftC x.2) x
theorem someC_go {q u : Bool} {x y : List Int × Cur} (h : someG q u x = some y) : someC q u x = someC q u y := run_go someG_dec h
theorem someC_stop {q u : Bool} {x : List Int × Cur} (h : someG q u x = none) : someC q u x = x := run_stop h
def immC (s : Cur) : Int × Cur := numC (-1099511627776) 1099511627776 s
def insC (q : Bool) (o dst : Int) (s : Cur) : Ins × Cur :=
 if o = 1 then (⟨o, dst, 0, 0, (immC s).1, 0, [], 0⟩, (immC s).2)
 else if o = 13 then
  let n := numC 0 99 s
  let l := someC q false ([], n.2)
  (⟨o, dst, 0, 0, 0, n.1, l.1, 0⟩, l.2)
 else
  let a := varC s
  let m := if o = 11 then immC a.2 else (0, a.2)
  let b := if o ≤ 10 then varC m.2 else (0, m.2)
  (⟨o, dst, a.1, b.1, m.1, 0, [], 0⟩, b.2)
def opC (s : Cur) : Int × Cur :=
 let r := kindC opsB 2 s
 if r.1 ≠ 0 then ((r.1 : Int), r.2)
 else if isC (.nm tConst) s = true then (1, popC s)
 else if isC (.nm tLoad) s = true then (11, popC s)
 else if isC (.nm tCall) s = true then (13, popC s)
 else (14, s)
inductive Ln where
 | ins (i : Ins)
 | term (t : Term)
def insL (x : Ins × Cur) : Ln × Cur := (.ins x.1, x.2)
def termL (t : Term) (s : Cur) : Ln × Cur := (.term t, s)
def oneC (q : Bool) (s : Cur) : Ln × Cur :=
 if isC (.nm tTrap) s = true then termL ⟨4, 0, 0, 0⟩ (popC s)
 else if isC (.nm tReturn) s = true then
  let s1 := popC s
  let v := if endsC s1 = true then (0, s1) else varC s1
  termL ⟨3, v.1, 0, 0⟩ v.2
 else if isC (.mk tArrow) s = true then
  let n := numC 0 63 (popC s)
  termL ⟨1, 0, n.1, 0⟩ n.2
 else if isC (.nm tStore) s = true then
  let a := varC (popC s)
  let m := immC a.2
  let b := varC m.2
  (.ins ⟨12, 0, a.1, b.1, m.1, 0, [], 0⟩, b.2)
 else if isC (.nm tCall) s = true then insL (insC q 13 0 (popC s))
 else
  let v := varC s
  if isC (.mk tArrow) v.2 = true then
   let n := numC 0 63 (popC v.2)
   let m := numC 0 63 n.2
   termL ⟨2, v.1, n.1, m.1⟩ m.2
  else
   let o := opC (markC [tLeft] v.2)
   insL (insC q o.1 v.1 o.2)
def aliveC (s : Cur) : Nat := leftC s + (if s.e = 0 then 1 else 0)
theorem alive_fail {x : Int} (hx : x ≠ 0) (s : Cur) : aliveC (failC x s) = 0 := by
 unfold aliveC
 rw [left_fail hx, failC_e]
 split
 ·split
  ·rename_i h1 h2
   rcases h1 with h1 | h1
   ·exact absurd h2 h1
   ·exact absurd h1 hx
  ·rfl
 ·first | rfl | rw [if_neg hx]
theorem left_alive (s : Cur) : leftC s ≤ aliveC s := Nat.le_add_right _ _
theorem alive_pop (s : Cur) : aliveC (popC s) ≤ aliveC s := by
 have h := left_pop s
 unfold aliveC
 rw [h]
 show leftC s - 1 + (if s.e = 0 then 1 else 0) ≤ _
 omega
theorem alive_pop1 {s : Cur} (h : 1 ≤ leftC s) : aliveC (popC s) < aliveC s := by
 have h1 := left_pop s
 unfold aliveC
 rw [h1]
 show leftC s - 1 + (if s.e = 0 then 1 else 0) < leftC s + (if s.e = 0 then 1 else 0)
 omega
theorem alive_e {s : Cur} (h : s.e = 0) : 1 ≤ aliveC s := by unfold aliveC; rw [if_pos h]; omega
theorem alive_bad {s : Cur} (h : s.e ≠ 0) : aliveC s = 0 := by unfold aliveC leftC; rw [if_neg h, if_neg h]
theorem alive_name (s : Cur) : aliveC (nameC s).2 ≤ aliveC s := by
 unfold nameC
 split
 ·split
  ·exact alive_pop s
  ·rw [alive_fail (by decide)]; omega
 ·rw [alive_fail (by decide)]; omega
theorem alive_num (lo hi : Int) (s : Cur) : aliveC (numC lo hi s).2 ≤ aliveC s := by
 unfold numC
 split
 ·split
  ·split
   ·rw [alive_fail (by decide)]; omega
   ·exact alive_pop s
  ·rw [alive_fail (by decide)]; omega
 ·rw [alive_fail (by decide)]; omega
theorem alive_mark : ∀ (l : List ByteArray) (s : Cur), aliveC (markC l s) ≤ aliveC s
 | [], _ => Nat.le_refl _
 | t :: l, s => by
  unfold markC
  refine Nat.le_trans (alive_mark l _) ?_
  split
  ·exact alive_pop s
  ·rw [alive_fail (by decide)]; omega
theorem alive_end (s : Cur) : aliveC (endC s) ≤ aliveC s := by
 unfold endC
 split
 ·split
  ·exact alive_pop s
  ·rw [alive_fail (by decide)]; omega
 ·exact Nat.le_refl _
theorem alive_kind : ∀ (l : List ByteArray) (k : Nat) (s : Cur), aliveC (kindC l k s).2 ≤ aliveC s
 | [], _, _ => Nat.le_refl _
 | t :: l, k, s => by
  unfold kindC
  split
  ·exact alive_pop s
  ·exact alive_kind l (k + 1) s
theorem alive_var (s : Cur) : aliveC (varC s).2 ≤ aliveC s := by
 unfold varC
 split
 ·rw [alive_fail (by decide)]; omega
 ·exact alive_name s
theorem alive_var1 {s : Cur} (h : s.e = 0) : aliveC (varC s).2 < aliveC s := by
 have h1 := alive_e h
 unfold varC
 split
 ·rw [alive_fail (by decide)]; omega
 ·rename_i hv
  have hp : 1 ≤ leftC s := by
   unfold leftC
   rw [if_pos h]
   cases hw : s.ws with
   | nil =>
    exfalso; apply hv
    unfold peekC headC
    rw [if_pos h, hw]
    rfl
   | cons x l => simp
  unfold nameC
  split
  ·split
   ·exact alive_pop1 hp
   ·rw [alive_fail (by decide)]; omega
  ·rw [alive_fail (by decide)]; omega
theorem alive_some {q u : Bool} : ∀ (f : Nat) (x : List Int × Cur), aliveC (loopC (someG q u) f x).2 ≤ aliveC x.2
 | 0, _ => Nat.le_refl _
 | f + 1, x => by
  cases h : someG q u x with
  | none => rw [loop_none h]; exact Nat.le_refl _
  | some y =>
   rw [loop_some h]
   refine Nat.le_trans (alive_some f y) ?_
   unfold someG at h
   split at h
   ·cases h
   ·split at h
    ·injection h with h; subst h; rw [alive_fail (by decide)]; omega
    ·split at h
     ·injection h with h; subst h; rw [alive_fail (by decide)]; omega
     ·injection h with h; subst h; exact alive_var x.2
theorem alive_ins (q : Bool) (o dst : Int) (s : Cur) : aliveC (insC q o dst s).2 ≤ aliveC s := by
 unfold insC
 split
 ·exact alive_num _ _ s
 ·split
  ·exact Nat.le_trans (alive_some _ _) (alive_num _ _ s)
  ·simp only
   have h1 := alive_var s
   have h2 : aliveC (if o = 11 then immC (varC s).2 else (0, (varC s).2)).2 ≤ aliveC (varC s).2 := by
    split
    ·exact alive_num _ _ _
    ·exact Nat.le_refl _
   have h3 : ∀ t : Cur, aliveC (if o ≤ 10 then varC t else (0, t)).2 ≤ aliveC t := fun t => by
    split
    ·exact alive_var t
    ·exact Nat.le_refl _
   exact Nat.le_trans (h3 _) (Nat.le_trans h2 h1)
theorem alive_op (s : Cur) : aliveC (opC s).2 ≤ aliveC s := by
 unfold opC
 simp only
 split
 ·exact alive_kind _ _ s
 ·split
  ·exact alive_pop s
  ·split
   ·exact alive_pop s
   ·split
    ·exact alive_pop s
    ·exact Nat.le_refl _
theorem alive_one {q : Bool} {s : Cur} (h : s.e = 0) : aliveC (oneC q s).2 < aliveC s := by
 have hp : ∀ {v : Has}, isC v s = true → aliveC (popC s) < aliveC s := fun hi => alive_pop1 (left_is hi)
 unfold oneC
 split
 ·rename_i hi; exact hp hi
 split
 ·rename_i _ hi
  refine Nat.lt_of_le_of_lt ?_ (hp hi)
  simp only [termL]
  split
  ·exact Nat.le_refl _
  ·exact alive_var _
 split
 ·rename_i _ _ hi
  exact Nat.lt_of_le_of_lt (alive_num _ _ _) (hp hi)
 split
 ·rename_i _ _ _ hi
  exact Nat.lt_of_le_of_lt (Nat.le_trans (alive_var _) (Nat.le_trans (alive_num _ _ _) (alive_var _))) (hp hi)
 split
 ·rename_i _ _ _ _ hi
  exact Nat.lt_of_le_of_lt (alive_ins _ _ _ _) (hp hi)
 ·have hv := alive_var1 h
  simp only
  split
  ·exact Nat.lt_of_le_of_lt (Nat.le_trans (alive_num _ _ _) (Nat.le_trans (alive_num _ _ _) (alive_pop _))) hv
  ·exact Nat.lt_of_le_of_lt (Nat.le_trans (alive_ins _ _ _ _) (Nat.le_trans (alive_op _) (alive_mark _ _))) hv
def blkG (q : Bool) (x : (Block × Bool) × Cur) : Option ((Block × Bool) × Cur) :=
 if x.1.2 = true ∨ x.2.e ≠ 0 then none
 else
  match (oneC q x.2).1 with
  | .term t => some ((⟨x.1.1.ins, t⟩, true), endC (oneC q x.2).2)
  | .ins i => some ((⟨x.1.1.ins ++ [i], x.1.1.term⟩, false), endC (if x.1.1.ins.length = 64 then failC 3 (oneC q x.2).2 else (oneC q x.2).2))
theorem blkG_dec {q : Bool} (x y : (Block × Bool) × Cur) (h : blkG q x = some y) : aliveC y.2 < aliveC x.2 := by
 unfold blkG at h
 split at h
 ·cases h
 ·rename_i hn
  have he : x.2.e = 0 := by
   by_cases h : x.2.e = 0
   ·exact h
   ·exact absurd (.inr h) hn
  have h1 := alive_one (q := q) he
  split at h
  ·injection h with h; subst h
   exact Nat.lt_of_le_of_lt (alive_end _) h1
  ·injection h with h; subst h
   refine Nat.lt_of_le_of_lt (alive_end _) ?_
   split
   ·rw [alive_fail (by decide)]; omega
   ·exact h1
def blkC (q : Bool) (x : (Block × Bool) × Cur) : (Block × Bool) × Cur := runC (blkG q) (fun x => aliveC x.2) x
theorem blkC_go {q : Bool} {x y : (Block × Bool) × Cur} (h : blkG q x = some y) : blkC q x = blkC q y := run_go blkG_dec h
theorem blkC_stop {q : Bool} {x : (Block × Bool) × Cur} (h : blkG q x = none) : blkC q x = x := run_stop h
def keyC (t : ByteArray) (s : Cur) : Cur := if isC (.nm t) s = true then popC s else failC 7 s
def headB (n : Nat) (s : Cur) : Cur := endC (numC n n (keyC tBlock (if n = 64 then failC 3 s else s))).2
def zeroTerm : Term := ⟨0, 0, 0, 0⟩
def wholeC (q : Bool) (n : Nat) (s : Cur) : Block × Cur :=
 let r := blkC q ((⟨[], zeroTerm⟩, false), headB n s)
 (r.1.1, r.2)
theorem alive_blk {q : Bool} : ∀ (f : Nat) (x : (Block × Bool) × Cur), aliveC (loopC (blkG q) f x).2 ≤ aliveC x.2
 | 0, _ => Nat.le_refl _
 | f + 1, x => by
  cases h : blkG q x with
  | none => rw [loop_none h]; exact Nat.le_refl _
  | some y => rw [loop_some h]; exact Nat.le_trans (alive_blk f y) (Nat.le_of_lt (blkG_dec x y h))
theorem alive_key {t : ByteArray} {s : Cur} (h : moreC s = true) : aliveC (keyC t s) < aliveC s := by
 have h0 : s.e = 0 ∧ s.ws ≠ [] := by
  unfold moreC at h
  simp only [Bool.and_eq_true, beq_iff_eq, Bool.not_eq_true', List.isEmpty_eq_false_iff] at h
  exact h
 unfold keyC
 split
 ·rename_i hi; exact alive_pop1 (left_is hi)
 ·rw [alive_fail (by decide)]; have := alive_e h0.1; omega
theorem alive_whole {q : Bool} {n : Nat} {s : Cur} (h : moreC s = true) : aliveC (wholeC q n s).2 < aliveC s := by
 unfold wholeC
 refine Nat.lt_of_le_of_lt (alive_blk _ _) ?_
 unfold headB
 refine Nat.lt_of_le_of_lt (Nat.le_trans (alive_end _) (alive_num _ _ _)) ?_
 split
 ·have hz : keyC tBlock (failC 3 s) = failC 3 s := by
   unfold keyC
   have hf : ¬ (failC 3 s).e = 0 := by
    rw [failC_e]
    split
    ·rename_i h1
     rcases h1 with h1 | h1
     ·exact h1
     ·exact absurd h1 (by decide)
    ·decide
   rw [if_neg (by unfold isC headC; rw [if_neg hf]; decide)]
   unfold failC
   rw [if_pos (.inl hf)]
  rw [hz, alive_fail (by decide)]
  have := left_alive s
  unfold moreC at h
  simp only [Bool.and_eq_true, beq_iff_eq] at h
  have := alive_e h.1
  omega
 ·exact alive_key h
def blocksG (q : Bool) (x : List Block × Cur) : Option (List Block × Cur) :=
 if x.1 = [] ∨ moreC x.2 = true then some (x.1 ++ [(wholeC q x.1.length x.2).1], (wholeC q x.1.length x.2).2) else none
def fnM (x : List Block × Cur) : Nat := aliveC x.2 + (if x.1 = [] then 1 else 0)
theorem alive_whole0 (q : Bool) (n : Nat) (s : Cur) : aliveC (wholeC q n s).2 ≤ aliveC s := by
 unfold wholeC
 refine Nat.le_trans (alive_blk _ _) ?_
 unfold headB
 refine Nat.le_trans (alive_end _) (Nat.le_trans (alive_num _ _ _) ?_)
 have h1 : ∀ t : Cur, aliveC (keyC tBlock t) ≤ aliveC t := fun t => by
  unfold keyC
  split
  ·exact alive_pop t
  ·rw [alive_fail (by decide)]; omega
 refine Nat.le_trans (h1 _) ?_
 split
 ·rw [alive_fail (by decide)]; omega
 ·exact Nat.le_refl _
theorem blocksG_dec {q : Bool} (x y : List Block × Cur) (h : blocksG q x = some y) : fnM y < fnM x := by
 unfold blocksG at h
 split at h
 ·rename_i hc
  injection h with h; subst h
  unfold fnM
  have hne : ¬ (x.1 ++ [(wholeC q x.1.length x.2).1] = []) := by simp
  simp only
  rw [if_neg hne]
  by_cases h0 : x.1 = []
  ·rw [if_pos h0]; have := alive_whole0 q x.1.length x.2; omega
  ·rw [if_neg h0]
   rcases hc with hc | hc
   ·exact absurd hc h0
   ·have := alive_whole (q := q) (n := x.1.length) hc; omega
 ·cases h
def fnBlocksC (q : Bool) (x : List Block × Cur) : List Block × Cur := runC (blocksG q) fnM x
theorem fnBlocksC_go {q : Bool} {x y : List Block × Cur} (h : blocksG q x = some y) : fnBlocksC q x = fnBlocksC q y := run_go blocksG_dec h
theorem fnBlocksC_stop {q : Bool} {x : List Block × Cur} (h : blocksG q x = none) : fnBlocksC q x = x := run_stop h
def fnC (q : Bool) (s : Cur) : Fnc × Cur :=
 let p := someC q true ([], keyC tFun s)
 let b := fnBlocksC q ([], endC p.2)
 (⟨p.1, b.1⟩, b.2)
def parse04 (q : Bool) (s : ByteArray) : Fnc × Int × Int × Int :=
 if 262144 < s.size then (⟨[], []⟩, 0, 0, 3)
 else if (errC (fnC q (overT s)).2).2.2 ≠ 0 then (⟨[], []⟩, errC (fnC q (overT s)).2) else ((fnC q (overT s)).1, 0, 0, 0)
end Go.Proofs.YtljglhaeonbfoaaGreatDoor
namespace Go.Proofs.YtljglhaeonbfoaaGreatDoor
def vOk (n : Int) : Bool := decide (1 ≤ n) && decide (n ≤ 200)
theorem vOk_in {n : Int} (h : vOk n = true) : 1 ≤ n ∧ n ≤ 200 := by
 unfold vOk at h
 simpa using h
def immOk (n : Int) : Bool := decide (-1099511627776 ≤ n) && decide (n ≤ 1099511627776)
theorem immOk_in {n : Int} (h : immOk n = true) : -1099511627776 ≤ n ∧ n ≤ 1099511627776 := by
 unfold immOk at h
 simpa using h
structure InsR (i : Ins) : Prop where
 op : 1 ≤ i.op ∧ i.op ≤ 14
 many : i.many = 0
 call : i.op = 13 → i.a = 0 ∧ i.b = 0 ∧ i.imm = 0 ∧ 0 ≤ i.callee ∧ i.callee ≤ 99 ∧ (i.dst ≠ 0 → vOk i.dst = true) ∧ i.args.length ≤ 8 ∧ ∀ x ∈ i.args, vOk x = true
 no : i.op ≠ 13 → i.callee = 0 ∧ i.args = []
 dst : i.op ≠ 13 → i.op ≠ 12 → vOk i.dst = true
 dst0 : i.op = 12 → i.dst = 0
 a : i.op ≠ 13 → i.op ≠ 1 → vOk i.a = true
 a0 : i.op = 1 → i.a = 0
 b : 2 ≤ i.op → i.op ≤ 10 ∨ i.op = 12 → vOk i.b = true
 b0 : i.op = 1 ∨ i.op = 11 ∨ i.op = 14 → i.b = 0
 imm : i.op = 1 ∨ i.op = 11 ∨ i.op = 12 → immOk i.imm = true
 imm0 : 2 ≤ i.op → i.op ≤ 10 ∨ i.op = 14 → i.imm = 0
structure TermR (t : Term) : Prop where
 k : 1 ≤ t.kind ∧ t.kind ≤ 4
 jump : t.kind = 1 → t.a = 0 ∧ t.to1 = 0
 branch : t.kind = 2 → vOk t.a = true
 ret : t.kind = 3 → (t.a ≠ 0 → vOk t.a = true) ∧ t.to0 = 0 ∧ t.to1 = 0
 trap : t.kind = 4 → t.a = 0 ∧ t.to0 = 0 ∧ t.to1 = 0
 to0 : 0 ≤ t.to0 ∧ t.to0 < 64
 to1 : 0 ≤ t.to1 ∧ t.to1 < 64
structure BlockR (b : Block) : Prop where
 n : b.ins.length ≤ 64
 i : ∀ i ∈ b.ins, InsR i
 t : TermR b.term
structure FncR (f : Fnc) : Prop where
 p : ∀ x ∈ f.params, vOk x = true
 pn : f.params.length ≤ 8
 pu : f.params.Nodup
 b : ∀ x ∈ f.blocks, BlockR x
 b1 : 1 ≤ f.blocks.length
 b64 : f.blocks.length ≤ 64
def vrW (v : Int) : Word := nmW (keyB 118 v.toNat)
def leftWs (d : Int) : List Word := if d ≠ 0 then [vrW d, mkW tLeft] else []
def opT (o : Int) : ByteArray := opsB.getD (o.toNat - 2) ByteArray.empty
def insWs (i : Ins) : List Word :=
 if i.op = 1 then leftWs i.dst ++ [nmW tConst, nuW i.imm]
 else if i.op = 11 then leftWs i.dst ++ [nmW tLoad, vrW i.a, nuW i.imm]
 else if i.op = 12 then [nmW tStore, vrW i.a, nuW i.imm, vrW i.b]
 else if i.op = 13 then leftWs i.dst ++ (nmW tCall :: nuW i.callee :: i.args.map vrW)
 else if i.op = 14 then leftWs i.dst ++ [vrW i.a]
 else leftWs i.dst ++ [nmW (opT i.op), vrW i.a, vrW i.b]
def termWs (t : Term) : List Word :=
 if t.kind = 1 then [mkW tArrow, nuW t.to0]
 else if t.kind = 2 then [vrW t.a, mkW tArrow, nuW t.to0, nuW t.to1]
 else if t.kind = 3 then nmW tReturn :: (if t.a = 0 then [] else [vrW t.a])
 else [nmW tTrap]
def blockWs (n : Nat) (b : Block) : List (List Word) := [nmW tBlock, nuW n] :: (b.ins.map insWs ++ [termWs b.term])
def blocksWs : Nat → List Block → List (List Word)
 | _, [] => []
 | n, b :: l => blockWs n b ++ blocksWs (n + 1) l
def fnWs (f : Fnc) : List (List Word) := (nmW tFun :: f.params.map vrW) :: blocksWs 0 f.blocks
def show04 (f : Fnc) : ByteArray := linesX ByteArray.empty (fnWs f)
theorem key_list (c : UInt8) (n : Nat) : (keyB c n).toList = c :: Lib.decDigits n := by rw [ByteArray.toList_eq]; unfold keyB; simp
theorem vr_is {v : Int} {t : ByteArray} (ht : t.toList.head? ≠ some 118) (r : List Word) : isC (.nm t) (CX (vrW v :: r)) = false := by
 show ((keyB 118 v.toNat).toList == t.toList) = false
 rw [key_list]
 cases hl : t.toList with
 | nil => rfl
 | cons x l =>
  rw [hl] at ht
  have : x ≠ 118 := fun e => ht (by rw [e]; rfl)
  simp [this, Ne.symm this]
theorem vr_mk (v : Int) (t : ByteArray) (r : List Word) : isC (.mk t) (CX (vrW v :: r)) = false := rfl
theorem nm_mk (u t : ByteArray) (r : List Word) : isC (.mk t) (CX (nmW u :: r)) = false := rfl
theorem mk_nm (u t : ByteArray) (r : List Word) : isC (.nm t) (CX (mkW u :: r)) = false := rfl
theorem var_hit {v : Int} (h : vOk v = true) (r : List Word) : varC (CX (vrW v :: r)) = (v, CX r) := by
 obtain ⟨h1, h2⟩ := vOk_in h
 have e : vW (keyB 118 v.toNat) = v := by rw [vW_key (by omega)]; omega
 unfold varC
 rw [show peekC (CX (vrW v :: r)) = keyB 118 v.toNat from rfl, e, if_neg (by omega)]
 rfl
theorem some_hit {q u : Bool} : ∀ (l acc : List Int) (L : List (List Word)), (∀ x ∈ l, vOk x = true) → acc.length + l.length ≤ 8 → (u = true → (acc ++ l).Nodup) → someC q u (acc, CX (l.map vrW ++ wsB wsC L)) = (acc ++ l, CX (wsB wsC L))
 | [], acc, L, _, _, _ => by
  have hg : someG q u (acc, CX (([] : List Int).map vrW ++ wsB wsC L)) = none := if_pos (ends_B L)
  rw [someC_stop hg]; simp
 | v :: l, acc, L, h, hl, hu => by
  have hv := h v (by simp)
  obtain ⟨v1, v2⟩ := vOk_in hv
  simp only [List.length_cons] at hl
  have hpk : vW (peekC (CX ((v :: l).map vrW ++ wsB wsC L))) = v := by
   show vW (keyB 118 v.toNat) = v
   rw [vW_key (by omega)]; omega
  have hg : someG q u (acc, CX ((v :: l).map vrW ++ wsB wsC L)) = some (acc ++ [v], CX (l.map vrW ++ wsB wsC L)) := by
   unfold someG
   simp only
   rw [if_neg (by show ¬ ((1 : Int) == 4) = true; decide), if_neg (by omega), if_neg ?_]
   ·rw [show CX ((v :: l).map vrW ++ wsB wsC L) = CX (vrW v :: (l.map vrW ++ wsB wsC L)) from rfl, var_hit hv]
   ·rintro ⟨h1, h2⟩
    rw [hpk] at h2
    have h3 := hu h1
    have h4 : v ∈ acc := by simpa using h2
    rw [List.nodup_append] at h3
    exact h3.2.2 v h4 v (by simp) rfl
  rw [someC_go hg, some_hit l _ L (fun y hy => h y (List.mem_cons_of_mem _ hy)) (by simp; omega) (fun hq => by simpa using hu hq)]
  simp
theorem imm_hit {n : Int} (h : immOk n = true) (r : List Word) : immC (CX (nuW n :: r)) = (n, CX r) := num_hitX (immOk_in h).1 (immOk_in h).2 r
theorem op_name {o : Int} (h1 : 2 ≤ o) (h2 : o ≤ 10) (r : List Word) : opC (CX (nmW (opT o) :: r)) = (o, CX r) := by
 obtain ⟨k, rfl⟩ : ∃ k : Nat, o = (k : Int) := ⟨o.toNat, by omega⟩
 have hk : kindC opsB 2 (CX (nmW (opT (k : Int)) :: r)) = (k, CX r) := by
  rcases (by omega : k = 2 ∨ k = 3 ∨ k = 4 ∨ k = 5 ∨ k = 6 ∨ k = 7 ∨ k = 8 ∨ k = 9 ∨ k = 10) with rfl | rfl | rfl | rfl | rfl | rfl | rfl | rfl | rfl
  all_goals
   simp only [opsB, opT, kindC, is_nmX, ByteArray.toList_eq]
   rfl
 unfold opC
 simp only
 rw [hk]
 exact if_pos (by omega)
theorem op_word {t : ByteArray} (ht : ∀ u ∈ opsB, (t.toList == u.toList) = false) (r : List Word) : kindC opsB 2 (CX (nmW t :: r)) = (0, CX (nmW t :: r)) := by
 have key : ∀ (l : List ByteArray) (k : Nat), (∀ u ∈ l, (t.toList == u.toList) = false) → kindC l k (CX (nmW t :: r)) = (0, CX (nmW t :: r)) := by
  intro l
  induction l with
  | nil => intro k _; rfl
  | cons u l ih =>
   intro k h
   unfold kindC
   rw [is_nmX, h u (by simp), if_neg (by decide)]
   exact ih (k + 1) fun x hx => h x (List.mem_cons_of_mem _ hx)
 exact key opsB 2 ht
theorem op_const (r : List Word) : opC (CX (nmW tConst :: r)) = (1, CX r) := by
 unfold opC
 simp only
 rw [op_word (by simp only [ByteArray.toList_eq]; decide), if_neg (by simp), if_pos (by rw [is_nmX]; simp)]
 rfl
theorem op_load (r : List Word) : opC (CX (nmW tLoad :: r)) = (11, CX r) := by
 unfold opC
 simp only
 rw [op_word (by simp only [ByteArray.toList_eq]; decide), if_neg (by simp), if_neg (by rw [is_nmX]; simp only [ByteArray.toList_eq]; decide), if_pos (by rw [is_nmX]; simp)]
 rfl
theorem op_call (r : List Word) : opC (CX (nmW tCall :: r)) = (13, CX r) := by
 unfold opC
 simp only
 rw [op_word (by simp only [ByteArray.toList_eq]; decide), if_neg (by simp), if_neg (by rw [is_nmX]; simp only [ByteArray.toList_eq]; decide), if_neg (by rw [is_nmX]; simp only [ByteArray.toList_eq]; decide), if_pos (by rw [is_nmX]; simp)]
 rfl
theorem heads_v : ∀ u ∈ opsB, u.toList.head? ≠ some 118 := by simp only [ByteArray.toList_eq]; decide
theorem op_copy (v : Int) (r : List Word) : opC (CX (vrW v :: r)) = (14, CX (vrW v :: r)) := by
 have hw := op_word (t := keyB 118 v.toNat) (fun u hu => by
  have := vr_is (v := v) (heads_v u hu) r
  exact this) r
 unfold opC
 simp only
 rw [show CX (vrW v :: r) = CX (nmW (keyB 118 v.toNat) :: r) from rfl, hw, if_neg (by simp)]
 rw [if_neg (by rw [show isC (.nm tConst) (CX (nmW (keyB 118 v.toNat) :: r)) = false from vr_is (by simp only [ByteArray.toList_eq]; decide) r]; decide)]
 rw [if_neg (by rw [show isC (.nm tLoad) (CX (nmW (keyB 118 v.toNat) :: r)) = false from vr_is (by simp only [ByteArray.toList_eq]; decide) r]; decide)]
 rw [if_neg (by rw [show isC (.nm tCall) (CX (nmW (keyB 118 v.toNat) :: r)) = false from vr_is (by simp only [ByteArray.toList_eq]; decide) r]; decide)]
end Go.Proofs.YtljglhaeonbfoaaGreatDoor
namespace Go.Proofs.YtljglhaeonbfoaaGreatDoor
theorem ins_const {n d : Int} (h : immOk n = true) (r : List Word) : insC false 1 d (CX (nuW n :: r)) = (⟨1, d, 0, 0, n, 0, [], 0⟩, CX r) := by
 unfold insC
 rw [if_pos rfl, imm_hit h]
theorem ins_load {n d a : Int} (ha : vOk a = true) (h : immOk n = true) (r : List Word) : insC false 11 d (CX (vrW a :: nuW n :: r)) = (⟨11, d, a, 0, n, 0, [], 0⟩, CX r) := by
 unfold insC
 rw [if_neg (by decide), if_neg (by decide)]
 simp only [var_hit ha]
 rw [if_pos trivial, if_neg (by decide), imm_hit h]
theorem ins_copy {d a : Int} (ha : vOk a = true) (r : List Word) : insC false 14 d (CX (vrW a :: r)) = (⟨14, d, a, 0, 0, 0, [], 0⟩, CX r) := by
 unfold insC
 rw [if_neg (by decide), if_neg (by decide)]
 simp only [var_hit ha]
 rw [if_neg (by decide), if_neg (by decide)]
theorem ins_two {o d a b : Int} (h1 : 2 ≤ o) (h2 : o ≤ 10) (ha : vOk a = true) (hb : vOk b = true) (r : List Word) : insC false o d (CX (vrW a :: vrW b :: r)) = (⟨o, d, a, b, 0, 0, [], 0⟩, CX r) := by
 unfold insC
 rw [if_neg (by omega), if_neg (by omega)]
 simp only [var_hit ha]
 rw [if_neg (show ¬ o = 11 by omega)]
 simp only
 rw [if_pos h2, var_hit hb]
theorem ins_call {d c : Int} {l : List Int} (h1 : 0 ≤ c) (h2 : c ≤ 99) (hl : l.length ≤ 8) (h : ∀ x ∈ l, vOk x = true) (L : List (List Word)) : insC false 13 d (CX (nuW c :: (l.map vrW ++ wsB wsC L))) = (⟨13, d, 0, 0, 0, c, l, 0⟩, CX (wsB wsC L)) := by
 unfold insC
 rw [if_neg (by decide), if_pos rfl]
 simp only [num_hitX h1 h2]
 rw [some_hit l [] L h (by simpa using hl) (fun h => absurd h (by decide))]
 rfl
theorem nm_no {t u : ByteArray} (h : (u.toList == t.toList) = false) (r : List Word) : ¬ isC (.nm t) (CX (nmW u :: r)) = true := by rw [is_nmX, h]; decide
theorem nm_yes (t : ByteArray) (r : List Word) : isC (.nm t) (CX (nmW t :: r)) = true := by rw [is_nmX]; simp
theorem vr_no {v : Int} {t : ByteArray} (ht : t.toList.head? ≠ some 118) (r : List Word) : ¬ isC (.nm t) (CX (vrW v :: r)) = true := by rw [vr_is ht r]; decide
theorem one_left {d : Int} (hd : vOk d = true) (r : List Word) : oneC false (CX (vrW d :: mkW tLeft :: r)) = insL (insC false (opC (CX r)).1 d (opC (CX r)).2) := by
 unfold oneC
 rw [if_neg (vr_no (by simp only [ByteArray.toList_eq]; decide) _), if_neg (vr_no (by simp only [ByteArray.toList_eq]; decide) _), if_neg (by rw [vr_mk]; decide), if_neg (vr_no (by simp only [ByteArray.toList_eq]; decide) _), if_neg (vr_no (by simp only [ByteArray.toList_eq]; decide) _)]
 simp only [var_hit hd]
 rw [if_neg (by rw [is_mkX]; simp only [ByteArray.toList_eq]; decide), mark_hitX]
theorem one_call (r : List Word) : oneC false (CX (nmW tCall :: r)) = insL (insC false 13 0 (CX r)) := by
 unfold oneC
 rw [if_neg (nm_no (by simp only [ByteArray.toList_eq]; decide) _), if_neg (nm_no (by simp only [ByteArray.toList_eq]; decide) _), if_neg (by rw [nm_mk]; decide), if_neg (nm_no (by simp only [ByteArray.toList_eq]; decide) _), if_pos (nm_yes _ _)]
 rfl
theorem one_store {a b n : Int} (ha : vOk a = true) (hb : vOk b = true) (hn : immOk n = true) (r : List Word) : oneC false (CX (nmW tStore :: vrW a :: nuW n :: vrW b :: r)) = (.ins ⟨12, 0, a, b, n, 0, [], 0⟩, CX r) := by
 unfold oneC
 rw [if_neg (nm_no (by simp only [ByteArray.toList_eq]; decide) _), if_neg (nm_no (by simp only [ByteArray.toList_eq]; decide) _), if_neg (by rw [nm_mk]; decide), if_pos (nm_yes _ _)]
 simp only [show popC (CX (nmW tStore :: vrW a :: nuW n :: vrW b :: r)) = CX (vrW a :: nuW n :: vrW b :: r) from rfl, var_hit ha, imm_hit hn, var_hit hb]
theorem ins_hit {i : Ins} (h : InsR i) (L : List (List Word)) : oneC false (CX (insWs i ++ wsB wsC L)) = (.ins i, CX (wsB wsC L)) := by
 obtain ⟨o, d, a, b, n, c, l, m⟩ := i
 obtain ⟨⟨o1, o2⟩, hm, hcall, hno, hdst, hdst0, ha, ha0, hb, hb0, himm, himm0⟩ := h
 simp only at o1 o2 hm hcall hno hdst hdst0 ha ha0 hb hb0 himm himm0
 subst hm
 have hL : ∀ (hd : vOk d = true) (r : List Word), oneC false (CX ((leftWs d ++ r) ++ wsB wsC L)) = insL (insC false (opC (CX (r ++ wsB wsC L))).1 d (opC (CX (r ++ wsB wsC L))).2) := fun hd r => by
  have : d ≠ 0 := by have := vOk_in hd; omega
  rw [show leftWs d = [vrW d, mkW tLeft] from if_pos this]
  exact one_left hd (r ++ wsB wsC L)
 unfold insWs
 simp only
 by_cases e1 : o = 1
 ·subst e1
  obtain ⟨rfl, rfl⟩ := hno (by decide)
  obtain rfl := ha0 rfl
  obtain rfl := hb0 (.inl rfl)
  rw [if_pos rfl, hL (hdst (by decide) (by decide))]
  simp only [List.cons_append, List.nil_append, op_const, ins_const (himm (.inl rfl))]
  rfl
 rw [if_neg e1]
 by_cases e2 : o = 11
 ·subst e2
  obtain ⟨rfl, rfl⟩ := hno (by decide)
  obtain rfl := hb0 (.inr (.inl rfl))
  rw [if_pos rfl, hL (hdst (by decide) (by decide))]
  simp only [List.cons_append, List.nil_append, op_load, ins_load (ha (by decide) (by decide)) (himm (.inr (.inl rfl)))]
  rfl
 rw [if_neg e2]
 by_cases e3 : o = 12
 ·subst e3
  obtain ⟨rfl, rfl⟩ := hno (by decide)
  obtain rfl := hdst0 rfl
  rw [if_pos rfl]
  exact one_store (ha (by decide) (by decide)) (hb (by decide) (.inr rfl)) (himm (.inr (.inr rfl))) _
 rw [if_neg e3]
 by_cases e4 : o = 13
 ·subst e4
  obtain ⟨rfl, rfl, rfl, c1, c2, hd, l1, l2⟩ := hcall rfl
  rw [if_pos rfl]
  by_cases d0 : d = 0
  ·subst d0
   rw [show leftWs 0 = [] from rfl]
   show oneC false (CX (nmW tCall :: (nuW c :: (l.map vrW ++ wsB wsC L)))) = _
   rw [one_call, ins_call c1 c2 l1 l2]
   rfl
  ·rw [hL (hd d0)]
   simp only [List.cons_append, op_call]
   rw [ins_call c1 c2 l1 l2]
   rfl
 rw [if_neg e4]
 obtain ⟨rfl, rfl⟩ := hno e4
 by_cases e5 : o = 14
 ·subst e5
  obtain rfl := hb0 (.inr (.inr rfl))
  obtain rfl := himm0 (by decide) (.inr rfl)
  rw [if_pos rfl, hL (hdst (by decide) (by decide))]
  simp only [List.cons_append, List.nil_append, op_copy, ins_copy (ha (by decide) (by decide))]
  rfl
 rw [if_neg e5]
 have h1 : 2 ≤ o := by omega
 have h2 : o ≤ 10 := by omega
 obtain rfl := himm0 h1 (.inl h2)
 rw [hL (hdst e4 e3)]
 simp only [List.cons_append, List.nil_append, op_name h1 h2, ins_two h1 h2 (ha e4 e1) (hb h1 (.inl h2))]
 rfl
theorem term_hit {t : Term} (h : TermR t) (L : List (List Word)) : oneC false (CX (termWs t ++ wsB wsC L)) = (.term t, CX (wsB wsC L)) := by
 obtain ⟨k, a, x, y⟩ := t
 obtain ⟨⟨k1, k2⟩, hj, hb, hr, ht, ⟨x1, x2⟩, ⟨y1, y2⟩⟩ := h
 simp only at k1 k2 hj hb hr ht x1 x2 y1 y2
 unfold termWs
 simp only
 by_cases e1 : k = 1
 ·subst e1
  obtain ⟨rfl, rfl⟩ := hj rfl
  rw [if_pos rfl]
  show oneC false (CX (mkW tArrow :: nuW x :: wsB wsC L)) = _
  unfold oneC
  rw [if_neg (by rw [mk_nm]; decide), if_neg (by rw [mk_nm]; decide), if_pos (by rw [is_mkX]; simp)]
  simp only [show popC (CX (mkW tArrow :: nuW x :: wsB wsC L)) = CX (nuW x :: wsB wsC L) from rfl, num_hitX x1 (by omega : x ≤ 63)]
  rfl
 rw [if_neg e1]
 by_cases e2 : k = 2
 ·subst e2
  have ha := hb rfl
  rw [if_pos rfl]
  show oneC false (CX (vrW a :: mkW tArrow :: nuW x :: nuW y :: wsB wsC L)) = _
  unfold oneC
  rw [if_neg (vr_no (by simp only [ByteArray.toList_eq]; decide) _), if_neg (vr_no (by simp only [ByteArray.toList_eq]; decide) _), if_neg (by rw [vr_mk]; decide), if_neg (vr_no (by simp only [ByteArray.toList_eq]; decide) _), if_neg (vr_no (by simp only [ByteArray.toList_eq]; decide) _)]
  simp only [var_hit ha]
  rw [if_pos (by rw [is_mkX]; simp)]
  simp only [show popC (CX (mkW tArrow :: nuW x :: nuW y :: wsB wsC L)) = CX (nuW x :: nuW y :: wsB wsC L) from rfl, num_hitX x1 (by omega : x ≤ 63), num_hitX y1 (by omega : y ≤ 63)]
  rfl
 rw [if_neg e2]
 by_cases e3 : k = 3
 ·subst e3
  obtain ⟨ha, rfl, rfl⟩ := hr rfl
  rw [if_pos rfl]
  by_cases a0 : a = 0
  ·subst a0
   rw [if_pos rfl]
   show oneC false (CX (nmW tReturn :: wsB wsC L)) = _
   unfold oneC
   rw [if_neg (nm_no (by simp only [ByteArray.toList_eq]; decide) _), if_pos (nm_yes _ _)]
   simp only [show popC (CX (nmW tReturn :: wsB wsC L)) = CX (wsB wsC L) from rfl]
   rw [if_pos (ends_B L)]
   rfl
  ·rw [if_neg a0]
   show oneC false (CX (nmW tReturn :: vrW a :: wsB wsC L)) = _
   unfold oneC
   rw [if_neg (nm_no (by simp only [ByteArray.toList_eq]; decide) _), if_pos (nm_yes _ _)]
   simp only [show popC (CX (nmW tReturn :: vrW a :: wsB wsC L)) = CX (vrW a :: wsB wsC L) from rfl]
   rw [if_neg (by show ¬ ((1 : Int) == 4) = true; decide), var_hit (ha a0)]
   rfl
 rw [if_neg e3]
 obtain rfl : k = 4 := by omega
 obtain ⟨rfl, rfl, rfl⟩ := ht rfl
 show oneC false (CX (nmW tTrap :: wsB wsC L)) = _
 unfold oneC
 rw [if_pos (nm_yes _ _)]
 rfl
theorem blk_hit : ∀ (is acc : List Ins) (t : Term) (L : List (List Word)), (∀ i ∈ is, InsR i) → TermR t → acc.length + is.length ≤ 64 → blkC false ((⟨acc, zeroTerm⟩, false), CX (wsC (is.map insWs ++ termWs t :: L))) = ((⟨acc ++ is, t⟩, true), CX (wsC L))
 | [], acc, t, L, _, ht, _ => by
  have h1 := term_hit ht L
  have hw : wsC (([] : List Ins).map insWs ++ termWs t :: L) = termWs t ++ wsB wsC L := wsC_cons _ _
  have hg : blkG false ((⟨acc, zeroTerm⟩, false), CX (wsC (([] : List Ins).map insWs ++ termWs t :: L))) = some ((⟨acc, t⟩, true), CX (wsC L)) := by
   unfold blkG
   rw [if_neg (by simp)]
   simp only [hw, h1]
   rw [endC_B]
  rw [blkC_go hg, blkC_stop (if_pos (.inl rfl)), List.append_nil]
 | i :: is, acc, t, L, hi, ht, hl => by
  have h1 := ins_hit (hi i (by simp)) (is.map insWs ++ termWs t :: L)
  have hw : wsC ((i :: is).map insWs ++ termWs t :: L) = insWs i ++ wsB wsC (is.map insWs ++ termWs t :: L) := wsC_cons _ _
  simp only [List.length_cons] at hl
  have hg : blkG false ((⟨acc, zeroTerm⟩, false), CX (wsC ((i :: is).map insWs ++ termWs t :: L))) = some ((⟨acc ++ [i], zeroTerm⟩, false), CX (wsC (is.map insWs ++ termWs t :: L))) := by
   unfold blkG
   rw [if_neg (by simp)]
   simp only [hw, h1]
   rw [if_neg (by omega), endC_B]
  rw [blkC_go hg, blk_hit is _ t L (fun j hj => hi j (List.mem_cons_of_mem _ hj)) ht (by simp; omega)]
  simp
theorem whole_hit {b : Block} (h : BlockR b) {n : Nat} (hn : n < 64) (L : List (List Word)) : wholeC false n (CX (wsC (blockWs n b ++ L))) = (b, CX (wsC L)) := by
 obtain ⟨is, t⟩ := b
 obtain ⟨h1, h2, h3⟩ := h
 have hw : wsC (blockWs n ⟨is, t⟩ ++ L) = nmW tBlock :: nuW n :: wsB wsC (is.map insWs ++ termWs t :: L) := by
  have : blockWs n ⟨is, t⟩ ++ L = [nmW tBlock, nuW n] :: (is.map insWs ++ termWs t :: L) := by simp [blockWs]
  rw [this, wsC_cons]; rfl
 have hh : headB n (CX (nmW tBlock :: nuW n :: wsB wsC (is.map insWs ++ termWs t :: L))) = CX (wsC (is.map insWs ++ termWs t :: L)) := by
  unfold headB
  rw [if_neg (by omega), show keyC tBlock (CX (nmW tBlock :: nuW n :: wsB wsC (is.map insWs ++ termWs t :: L))) = CX (nuW n :: wsB wsC (is.map insWs ++ termWs t :: L)) from by unfold keyC; rw [if_pos (nm_yes _ _)]; rfl, num_hitX (Int.le_refl _) (Int.le_refl _)]
  exact endC_B _
 unfold wholeC
 simp only
 rw [hw, hh, blk_hit is [] t L h2 h3 (by simpa using h1)]
 rfl
theorem more_blocks (n : Nat) (b : Block) (L : List (List Word)) : moreC (CX (wsC (blockWs n b ++ L))) = true := by
 have : blockWs n b ++ L = [nmW tBlock, nuW n] :: (b.ins.map insWs ++ termWs b.term :: L) := by simp [blockWs]
 rw [this, wsC_cons]; rfl
theorem blocks_hit : ∀ (l acc : List Block), (∀ b ∈ l, BlockR b) → acc.length + l.length ≤ 64 → (acc = [] → l ≠ []) → fnBlocksC false (acc, CX (wsC (blocksWs acc.length l))) = (acc ++ l, CX [])
 | [], acc, _, _, hne => by
  have hg : blocksG false (acc, CX (wsC (blocksWs acc.length []))) = none := by
   unfold blocksG
   rw [if_neg]
   rintro (h | h)
   ·exact hne h rfl
   ·exact absurd h (show ¬ moreC (CX []) = true by decide)
  rw [fnBlocksC_stop hg, List.append_nil]
  rfl
 | b :: l, acc, h, hl, _ => by
  simp only [List.length_cons] at hl
  have h1 := whole_hit (h b (by simp)) (n := acc.length) (by omega) (blocksWs (acc.length + 1) l)
  have hg : blocksG false (acc, CX (wsC (blocksWs acc.length (b :: l)))) = some (acc ++ [b], CX (wsC (blocksWs (acc.length + 1) l))) := by
   unfold blocksG
   rw [if_pos (.inr (more_blocks _ _ _))]
   show some (acc ++ [(wholeC false acc.length (CX (wsC (blockWs acc.length b ++ blocksWs (acc.length + 1) l)))).1], _) = _
   simp only [show blocksWs acc.length (b :: l) = blockWs acc.length b ++ blocksWs (acc.length + 1) l from rfl, h1]
  rw [fnBlocksC_go hg]
  have ih := blocks_hit l (acc ++ [b]) (fun x hx => h x (List.mem_cons_of_mem _ hx)) (by simp; omega) (fun e => absurd e (by simp))
  rw [show (acc ++ [b]).length = acc.length + 1 from by simp] at ih
  rw [ih]; simp
theorem fn_hit {f : Fnc} (h : FncR f) : fnC false (CX (wsC (fnWs f))) = (f, CX []) := by
 obtain ⟨ps, bs⟩ := f
 obtain ⟨h1, h2, h3, h4, h5, h6⟩ := h
 simp only at h1 h2 h3 h4 h5 h6
 have hw : wsC (fnWs ⟨ps, bs⟩) = nmW tFun :: (ps.map vrW ++ wsB wsC (blocksWs 0 bs)) := wsC_cons _ _
 have hk : keyC tFun (CX (wsC (fnWs ⟨ps, bs⟩))) = CX (ps.map vrW ++ wsB wsC (blocksWs 0 bs)) := by
  rw [hw]; unfold keyC; rw [if_pos (nm_yes _ _)]; rfl
 unfold fnC
 simp only
 rw [hk, some_hit ps [] _ h1 (by simpa using h2) (fun _ => by simpa using h3), endC_B]
 have hb := blocks_hit bs [] h4 (by simpa using h6) (fun _ e => by rw [e] at h5; simp at h5)
 simp only [List.length_nil, List.nil_append] at hb
 rw [hb]
 rfl
end Go.Proofs.YtljglhaeonbfoaaGreatDoor
namespace Go.Proofs.YtljglhaeonbfoaaGreatDoor
section
variable {a b : Cur}
theorem var_sim04 (h : CurSim a b) : SimL28 (varC a) (varC b) := by
 unfold varC
 rw [h.peek28]
 split
 ·exact ⟨rfl, h.fail 7⟩
 ·exact ⟨rfl, h.name.2⟩
theorem some_sim04 {q u : Bool} {x y : List Int × Cur} (h : SimL28 x y) : SimL28 (someC q u x) (someC q u y) := by
 refine run_sim28 SimL28 (fun x y h => ?_) (fun x y h => h.2.left28) h
 unfold someG
 rw [h.2.ends28, h.1, h.2.peek28]
 split
 ·exact .inl ⟨rfl, rfl⟩
 ·split
  ·exact .inr ⟨_, _, rfl, rfl, rfl, h.2.fail 3⟩
  ·split
   ·exact .inr ⟨_, _, rfl, rfl, rfl, h.2.fail 7⟩
   ·obtain ⟨h1, h2⟩ := var_sim04 h.2
    exact .inr ⟨_, _, rfl, rfl, by simp only; rw [h1], h2⟩
theorem imm_sim04 (h : CurSim a b) : SimL28 (immC a) (immC b) := h.num _ _
theorem ins_sim04 (q : Bool) (o d : Int) (h : CurSim a b) : SimL28 (insC q o d a) (insC q o d b) := by
 unfold insC
 split
 ·obtain ⟨h1, h2⟩ := imm_sim04 h
  exact ⟨by simp only; rw [h1], h2⟩
 ·split
  ·obtain ⟨h1, h2⟩ := h.num 0 99
   obtain ⟨h3, h4⟩ := some_sim04 (q := q) (u := false) (x := ([], (numC 0 99 a).2)) (y := ([], (numC 0 99 b).2)) ⟨rfl, h2⟩
   exact ⟨by simp only; rw [h1, h3], h4⟩
  ·obtain ⟨h1, h2⟩ := var_sim04 h
   have hm : SimL28 (if o = 11 then immC (varC a).2 else (0, (varC a).2)) (if o = 11 then immC (varC b).2 else (0, (varC b).2)) := by
    split
    ·exact imm_sim04 h2
    ·exact ⟨rfl, h2⟩
   obtain ⟨h3, h4⟩ := hm
   simp only
   generalize (if o = 11 then immC (varC a).2 else (0, (varC a).2)) = ma at h3 h4 ⊢
   generalize (if o = 11 then immC (varC b).2 else (0, (varC b).2)) = mb at h3 h4 ⊢
   have hn : SimL28 (if o ≤ 10 then varC ma.2 else (0, ma.2)) (if o ≤ 10 then varC mb.2 else (0, mb.2)) := by
    split
    ·exact var_sim04 h4
    ·exact ⟨rfl, h4⟩
   obtain ⟨h5, h6⟩ := hn
   exact ⟨by simp only; rw [h1, h3, h5], h6⟩
theorem op_sim04 (h : CurSim a b) : SimL28 (opC a) (opC b) := by
 obtain ⟨h1, h2⟩ := kind_sim28 opsB 2 h
 unfold opC
 simp only
 rw [h1, h.is, h.is, h.is]
 split
 ·exact ⟨rfl, h2⟩
 ·split
  ·exact ⟨rfl, h.pop⟩
  ·split
   ·exact ⟨rfl, h.pop⟩
   ·split
    ·exact ⟨rfl, h.pop⟩
    ·exact ⟨rfl, h⟩
theorem insL_sim04 {x y : Ins × Cur} (h : SimL28 x y) : SimL28 (insL x) (insL y) := ⟨by unfold insL; rw [h.1], h.2⟩
theorem one_sim04 (q : Bool) (h : CurSim a b) : SimL28 (oneC q a) (oneC q b) := by
 unfold oneC
 rw [h.is, h.is, h.is, h.is, h.is]
 split
 ·exact ⟨rfl, h.pop⟩
 split
 ·simp only
  rw [h.pop.ends28]
  split
  ·exact ⟨rfl, h.pop⟩
  ·obtain ⟨h1, h2⟩ := var_sim04 h.pop
   exact ⟨by simp only [termL]; rw [h1], h2⟩
 split
 ·obtain ⟨h1, h2⟩ := h.pop.num 0 63
  exact ⟨by simp only [termL]; rw [h1], h2⟩
 split
 ·obtain ⟨h1, h2⟩ := var_sim04 h.pop
  obtain ⟨h3, h4⟩ := imm_sim04 h2
  obtain ⟨h5, h6⟩ := var_sim04 h4
  exact ⟨by simp only; rw [h1, h3, h5], h6⟩
 split
 ·exact insL_sim04 (ins_sim04 q 13 0 h.pop)
 ·obtain ⟨h1, h2⟩ := var_sim04 h
  simp only
  rw [h2.is]
  split
  ·obtain ⟨h3, h4⟩ := h2.pop.num 0 63
   obtain ⟨h5, h6⟩ := h4.num 0 63
   exact ⟨by simp only [termL]; rw [h1, h3, h5], h6⟩
  ·obtain ⟨h3, h4⟩ := op_sim04 (h2.mark [tLeft])
   rw [h1, h3]
   exact insL_sim04 (ins_sim04 q _ _ h4)
theorem CurSim.alive04 (h : CurSim a b) : aliveC a = aliveC b := by unfold aliveC; rw [h.left28, h.2]
theorem blk_sim04 {q : Bool} {x y : (Block × Bool) × Cur} (h : SimL28 x y) : SimL28 (blkC q x) (blkC q y) := by
 refine run_sim28 SimL28 (fun x y h => ?_) (fun x y h => h.2.alive04) h
 unfold blkG
 rw [h.1, h.2.2]
 split
 ·exact .inl ⟨rfl, rfl⟩
 ·obtain ⟨h1, h2⟩ := one_sim04 q h.2
  rw [h1]
  split
  ·exact .inr ⟨_, _, rfl, rfl, rfl, h2.end_⟩
  ·refine .inr ⟨_, _, rfl, rfl, rfl, ?_⟩
   simp only
   split
   ·exact (h2.fail 3).end_
   ·exact h2.end_
theorem key_sim04 (t : ByteArray) (h : CurSim a b) : CurSim (keyC t a) (keyC t b) := by
 unfold keyC
 rw [h.is]
 split
 ·exact h.pop
 ·exact h.fail 7
theorem head_sim04 (n : Nat) (h : CurSim a b) : CurSim (headB n a) (headB n b) := by
 unfold headB
 refine (CurSim.num (key_sim04 tBlock ?_) _ _).2.end_
 split
 ·exact h.fail 3
 ·exact h
theorem whole_sim04 (q : Bool) (n : Nat) (h : CurSim a b) : SimL28 (wholeC q n a) (wholeC q n b) := by
 obtain ⟨h1, h2⟩ := blk_sim04 (q := q) (x := ((⟨[], zeroTerm⟩, false), headB n a)) (y := ((⟨[], zeroTerm⟩, false), headB n b)) ⟨rfl, head_sim04 n h⟩
 exact ⟨by unfold wholeC; simp only; rw [h1], h2⟩
theorem blocks_sim04 {q : Bool} {x y : List Block × Cur} (h : SimL28 x y) : SimL28 (fnBlocksC q x) (fnBlocksC q y) := by
 refine run_sim28 SimL28 (fun x y h => ?_) (fun x y h => by unfold fnM; rw [h.1, h.2.alive04]) h
 unfold blocksG
 rw [h.1, h.2.more]
 split
 ·obtain ⟨h1, h2⟩ := whole_sim04 q y.1.length h.2
  exact .inr ⟨_, _, rfl, rfl, by simp only; rw [h1], h2⟩
 ·exact .inl ⟨rfl, rfl⟩
theorem fn_sim04 (q : Bool) (h : CurSim a b) : SimL28 (fnC q a) (fnC q b) := by
 obtain ⟨h1, h2⟩ := some_sim04 (q := q) (u := true) (x := ([], keyC tFun a)) (y := ([], keyC tFun b)) ⟨rfl, key_sim04 tFun h⟩
 obtain ⟨h3, h4⟩ := blocks_sim04 (q := q) (x := ([], endC (someC q true ([], keyC tFun a)).2)) (y := ([], endC (someC q true ([], keyC tFun b)).2)) ⟨rfl, h2.end_⟩
 exact ⟨by unfold fnC; simp only; rw [h1, h3], h4⟩
end
theorem parse_words04 {f : Fnc} (h : FncR f) {s : ByteArray} (hs : s.size ≤ 262144) (ho : CurSim (overT s) (CX (wsC (fnWs f)))) : parse04 false s = (f, 0, 0, 0) := by
 obtain ⟨h1, h2⟩ := fn_sim04 false ho
 rw [fn_hit h] at h1 h2
 unfold parse04
 rw [if_neg (by omega), h2.err, h1]
 rfl
def kwsB : List ByteArray := [tFun, tBlock, tTrap, tReturn, tStore, tCall, tConst, tLoad] ++ opsB
structure PW (P : Word → Prop) : Prop where
 vr : ∀ {v : Int}, vOk v = true → P (vrW v)
 kw : ∀ {t : ByteArray}, t ∈ kwsB → P (nmW t)
 mkL : P (mkW tLeft)
 mkR : P (mkW tArrow)
 num : ∀ {n : Int}, -1099511627776 ≤ n → n ≤ 1099511627776 → P (nuW n)
theorem kwsB_cases {t : ByteArray} {P : ByteArray → Prop} (h : t ∈ kwsB) (g : P tFun ∧ P tBlock ∧ P tTrap ∧ P tReturn ∧ P tStore ∧ P tCall ∧ P tConst ∧ P tLoad ∧ ∀ u ∈ opsB, P u) : P t := by
 obtain ⟨g1, g2, g3, g4, g5, g6, g7, g8, g9⟩ := g
 rcases List.mem_append.1 h with h | h
 ·simp only [List.mem_cons, List.not_mem_nil, or_false] at h
  rcases h with rfl | rfl | rfl | rfl | rfl | rfl | rfl | rfl <;> assumption
 ·exact g9 t h
theorem pw_ok : PW WOk where
 vr h := by
  obtain ⟨h1, h2⟩ := vOk_in h
  exact ⟨right_key28 (by decide) (by decide) (by omega), by show (1 : Int) ≠ 4; decide⟩
 kw h := by
  refine ⟨?_, by show (1 : Int) ≠ 4; decide⟩
  simp only [kwsB, opsB, List.cons_append, List.nil_append, List.mem_cons, List.not_mem_nil, or_false] at h
  rcases h with rfl | rfl | rfl | rfl | rfl | rfl | rfl | rfl | rfl | rfl | rfl | rfl | rfl | rfl | rfl | rfl | rfl <;> decide +kernel
 mkL := ⟨by decide +kernel, by show (3 : Int) ≠ 4; decide⟩
 mkR := ⟨by decide +kernel, by show (3 : Int) ≠ 4; decide⟩
 num h1 h2 := ok_numX h1 h2
theorem opT_mem {o : Int} (h1 : 2 ≤ o) (h2 : o ≤ 10) : opT o ∈ kwsB := by
 obtain ⟨k, rfl⟩ : ∃ k : Nat, o = (k : Int) := ⟨o.toNat, by omega⟩
 refine List.mem_append_right _ ?_
 rcases (by omega : k = 2 ∨ k = 3 ∨ k = 4 ∨ k = 5 ∨ k = 6 ∨ k = 7 ∨ k = 8 ∨ k = 9 ∨ k = 10) with rfl | rfl | rfl | rfl | rfl | rfl | rfl | rfl | rfl
 all_goals simp [opT, opsB]
theorem all2 {P : Word → Prop} {x : Word} {l : List Word} (h : P x) (g : ∀ p ∈ l, P p) : ∀ p ∈ x :: l, P p := by
 intro p hp
 rcases List.mem_cons.1 hp with rfl | hp
 ·exact h
 ·exact g p hp
theorem all0 {P : Word → Prop} : ∀ p ∈ ([] : List Word), P p := fun _ h => by cases h
theorem allA {P : Word → Prop} {l m : List Word} (h : ∀ p ∈ l, P p) (g : ∀ p ∈ m, P p) : ∀ p ∈ l ++ m, P p := by
 intro p hp
 rcases List.mem_append.1 hp with hp | hp
 ·exact h p hp
 ·exact g p hp
section
variable {P : Word → Prop} (H : PW P)
include H
theorem all_num {n : Int} (h1 : 0 ≤ n) (h2 : n ≤ 99) : P (nuW n) := H.num (by omega) (by omega)
theorem all_vars {l : List Int} (h : ∀ x ∈ l, vOk x = true) : ∀ p ∈ l.map vrW, P p := by
 intro p hp
 obtain ⟨x, hx, rfl⟩ := List.mem_map.1 hp
 exact H.vr (h x hx)
theorem all_left {d : Int} (h : d ≠ 0 → vOk d = true) : ∀ p ∈ leftWs d, P p := by
 unfold leftWs
 split
 ·rename_i hd; exact all2 (H.vr (h hd)) (all2 H.mkL all0)
 ·exact all0
theorem all_ins {i : Ins} (h : InsR i) : insWs i ≠ [] ∧ ∀ p ∈ insWs i, P p := by
 obtain ⟨⟨o1, o2⟩, hm, hcall, hno, hdst, hdst0, ha, ha0, hb, hb0, himm, himm0⟩ := h
 have himm' : immOk i.imm = true → P (nuW i.imm) := fun h => H.num (immOk_in h).1 (immOk_in h).2
 unfold insWs
 split
 ·rename_i e
  exact ⟨by simp, allA (all_left H fun _ => hdst (by omega) (by omega)) (all2 (H.kw (by simp [kwsB])) (all2 (himm' (himm (.inl e))) all0))⟩
 split
 ·rename_i _ e
  exact ⟨by simp, allA (all_left H fun _ => hdst (by omega) (by omega)) (all2 (H.kw (by simp [kwsB])) (all2 (H.vr (ha (by omega) (by omega))) (all2 (himm' (himm (.inr (.inl e)))) all0)))⟩
 split
 ·rename_i _ _ e
  exact ⟨by simp, all2 (H.kw (by simp [kwsB])) (all2 (H.vr (ha (by omega) (by omega))) (all2 (himm' (himm (.inr (.inr e)))) (all2 (H.vr (hb (by omega) (.inr e))) all0)))⟩
 split
 ·rename_i _ _ _ e
  obtain ⟨_, _, _, c1, c2, hd, l1, l2⟩ := hcall e
  exact ⟨by simp, allA (all_left H hd) (all2 (H.kw (by simp [kwsB])) (all2 (all_num H c1 c2) (all_vars H l2)))⟩
 split
 ·rename_i _ _ _ _ e
  exact ⟨by simp, allA (all_left H fun _ => hdst (by omega) (by omega)) (all2 (H.vr (ha (by omega) (by omega))) all0)⟩
 ·rename_i e1 e2 e3 e4 e5
  exact ⟨by simp, allA (all_left H fun _ => hdst (by omega) (by omega)) (all2 (H.kw (opT_mem (by omega) (by omega))) (all2 (H.vr (ha (by omega) (by omega))) (all2 (H.vr (hb (by omega) (.inl (by omega)))) all0)))⟩
theorem all_term {t : Term} (h : TermR t) : termWs t ≠ [] ∧ ∀ p ∈ termWs t, P p := by
 obtain ⟨⟨k1, k2⟩, hj, hb, hr, ht, ⟨x1, x2⟩, ⟨y1, y2⟩⟩ := h
 unfold termWs
 split
 ·exact ⟨by simp, all2 H.mkR (all2 (all_num H x1 (by omega)) all0)⟩
 split
 ·rename_i _ e
  exact ⟨by simp, all2 (H.vr (hb e)) (all2 H.mkR (all2 (all_num H x1 (by omega)) (all2 (all_num H y1 (by omega)) all0)))⟩
 split
 ·rename_i _ _ e
  refine ⟨by simp, all2 (H.kw (by simp [kwsB])) ?_⟩
  split
  ·exact all0
  ·rename_i ha; exact all2 (H.vr ((hr e).1 ha)) all0
 ·exact ⟨by simp, all2 (H.kw (by simp [kwsB])) all0⟩
theorem all_block {b : Block} (h : BlockR b) {n : Nat} (hn : n < 64) : ∀ ps ∈ blockWs n b, ps ≠ [] ∧ ∀ p ∈ ps, P p := by
 intro ps hp
 unfold blockWs at hp
 rcases List.mem_cons.1 hp with rfl | hp
 ·exact ⟨by simp, all2 (H.kw (by simp [kwsB])) (all2 (all_num H (by omega) (by omega)) all0)⟩
 rcases List.mem_append.1 hp with hp | hp
 ·obtain ⟨i, hi, rfl⟩ := List.mem_map.1 hp
  exact all_ins H (h.i i hi)
 ·obtain rfl := List.mem_singleton.1 hp
  exact all_term H h.t
theorem all_blocks : ∀ (l : List Block) (n : Nat), (∀ b ∈ l, BlockR b) → n + l.length ≤ 64 → ∀ ps ∈ blocksWs n l, ps ≠ [] ∧ ∀ p ∈ ps, P p
 | [], _, _, _ => fun _ h => by cases h
 | b :: l, n, h, hl => by
  simp only [List.length_cons] at hl
  intro ps hp
  rcases List.mem_append.1 (show ps ∈ blockWs n b ++ blocksWs (n + 1) l from hp) with hp | hp
  ·exact all_block H (h b (by simp)) (by omega) ps hp
  ·exact all_blocks l (n + 1) (fun x hx => h x (List.mem_cons_of_mem _ hx)) (by omega) ps hp
theorem all_fn {f : Fnc} (h : FncR f) : ∀ ps ∈ fnWs f, ps ≠ [] ∧ ∀ p ∈ ps, P p := by
 intro ps hp
 rcases List.mem_cons.1 (show ps ∈ (nmW tFun :: f.params.map vrW) :: blocksWs 0 f.blocks from hp) with rfl | hp
 ·exact ⟨by simp, all2 (H.kw (by simp [kwsB])) (all_vars H h.p)⟩
 ·exact all_blocks H f.blocks 0 h.b (by have := h.b64; omega) ps hp
end
theorem ok_fn {f : Fnc} (h : FncR f) : LOk (fnWs f) := all_fn pw_ok h
theorem parse_show04 {f : Fnc} (h : FncR f) (hs : (show04 f).size ≤ 262144) : parse04 false (show04 f) = (f, 0, 0, 0) := parse_words04 h hs (over_linesX (ok_fn h))
end Go.Proofs.YtljglhaeonbfoaaGreatDoor
namespace Go.Proofs.YtljglhaeonbfoaaGreatDoor
theorem run_ind {σ : Type} {go : σ → Option σ} {μ : σ → Nat} (hd : ∀ x y, go x = some y → μ y < μ x) {P : σ → σ → Prop} (h0 : ∀ x, go x = none → P x x) (h1 : ∀ x y r, go x = some y → P y r → P x r) (x : σ) : P x (runC go μ x) := by
 obtain ⟨n, hn⟩ : ∃ n, μ x ≤ n := ⟨_, Nat.le_refl _⟩
 induction n generalizing x with
 | zero =>
  cases hg : go x with
  | none => rw [run_stop hg]; exact h0 x hg
  | some y => have := hd x y hg; omega
 | succ n ih =>
  cases hg : go x with
  | none => rw [run_stop hg]; exact h0 x hg
  | some y => rw [run_go hd hg]; exact h1 x y _ hg (ih y (by have := hd x y hg; omega))
theorem var_in04 {s : Cur} (h : (varC s).2.e = 0) : s.e = 0 ∧ vOk (varC s).1 = true ∧ (varC s).1 = vW (peekC s) ∧ leftC (varC s).2 + 1 = leftC s := by
 unfold varC at h ⊢
 by_cases hv : vW (peekC s) = 0
 ·rw [if_pos hv] at h; exact absurd h (fail_e28 (by decide) s)
 ·rw [if_neg hv] at h ⊢
  obtain ⟨h1, h2⟩ := name_ok28 h
  obtain ⟨n, n1, n2, _, n4⟩ := vW_inv hv
  refine ⟨h1, ?_, rfl, h2⟩
  simp only
  rw [n4]
  unfold vOk
  simp only [Bool.and_eq_true, decide_eq_true_eq]
  omega
theorem some_in04 {u : Bool} (x : List Int × Cur) : (someC false u x).2.e = 0 → x.2.e = 0 ∧ ∃ l, (someC false u x).1 = x.1 ++ l ∧ (∀ v ∈ l, vOk v = true) ∧ (x.1.length ≤ 8 → (x.1 ++ l).length ≤ 8) ∧ (u = true → x.1.Nodup → (x.1 ++ l).Nodup) ∧ leftC (someC false u x).2 + l.length = leftC x.2 := by
 refine run_ind (someG_dec (q := false) (u := u)) (P := fun x r => r.2.e = 0 → x.2.e = 0 ∧ ∃ l, r.1 = x.1 ++ l ∧ (∀ v ∈ l, vOk v = true) ∧ (x.1.length ≤ 8 → (x.1 ++ l).length ≤ 8) ∧ (u = true → x.1.Nodup → (x.1 ++ l).Nodup) ∧ leftC r.2 + l.length = leftC x.2) ?_ ?_ x
 ·intro x _ h
  exact ⟨h, [], by simp, fun _ h => (by cases h), fun h => by simpa using h, fun _ h => by simpa using h, by simp⟩
 ·intro x y r hg ih h
  obtain ⟨h1, l, h2, h3, h4, h5, h6⟩ := ih h
  unfold someG at hg
  split at hg
  ·cases hg
  split at hg
  ·injection hg with hg; subst hg
   exact absurd h1 (fail_e28 (by decide) _)
  rename_i hl
  split at hg
  ·injection hg with hg; subst hg
   exact absurd h1 (fail_e28 (by decide) _)
  rename_i hn
  injection hg with hg; subst hg
  simp only at h1 h2 h4 h5 h6
  obtain ⟨v1, v2, v3, v4⟩ := var_in04 h1
  refine ⟨v1, (varC x.2).1 :: l, by rw [h2]; simp, fun v hv => ?_, fun h8 => ?_, fun hu hd => ?_, by simp only [List.length_cons]; omega⟩
  ·rcases List.mem_cons.1 hv with rfl | hv
   ·exact v2
   ·exact h3 v hv
  ·have e8 : (x.1 ++ [(varC x.2).1]).length = x.1.length + 1 := by simp
   have hl' : x.1.length < 8 := Nat.lt_of_le_of_ne h8 hl
   have := h4 (by rw [e8]; exact hl')
   simpa using this
  ·have hc : ¬ (varC x.2).1 ∈ x.1 := by
    rw [v3]
    intro hm
    exact hn ⟨hu, by simpa using hm⟩
   have := h5 hu (by
    rw [List.nodup_append]
    exact ⟨hd, by simp, fun a ha b hb => by
     obtain rfl := List.mem_singleton.1 hb
     rintro rfl
     exact hc ha⟩)
   simpa using this
theorem imm_in04 {s : Cur} (h : (immC s).2.e = 0) : s.e = 0 ∧ immOk (immC s).1 = true ∧ leftC (immC s).2 + 1 = leftC s := by
 obtain ⟨h1, h2, h3, h4⟩ := num_ok28 h
 exact ⟨h1, by unfold immOk; simp only [Bool.and_eq_true, decide_eq_true_eq]; exact ⟨h2, h3⟩, h4⟩
theorem op_in04 (s : Cur) : (opC s).2.e = s.e ∧ leftC (opC s).2 + (if (opC s).1 = 14 then 0 else 1) = leftC s ∧ ((opC s).1 = 1 ∨ (2 ≤ (opC s).1 ∧ (opC s).1 ≤ 10) ∨ (opC s).1 = 11 ∨ (opC s).1 = 13 ∨ (opC s).1 = 14) := by
 obtain ⟨k1, k2⟩ := kind_ok28 opsB 2 s
 unfold opC
 simp only
 by_cases hr : (kindC opsB 2 s).1 ≠ 0
 ·rw [if_pos hr]
  rcases k2 with k2 | ⟨k2, k3, k4⟩
  ·exact absurd k2 hr
  have k5 : (kindC opsB 2 s).1 < 2 + 9 := k3
  refine ⟨k1, ?_, .inr (.inl ⟨by simp only; omega, by simp only; omega⟩)⟩
  rw [if_neg (by simp only; omega)]
  exact k4
 rw [if_neg hr]
 by_cases h1 : isC (.nm tConst) s = true
 ·rw [if_pos h1]
  exact ⟨rfl, (pop_left28 h1).2, .inl rfl⟩
 rw [if_neg h1]
 by_cases h2 : isC (.nm tLoad) s = true
 ·rw [if_pos h2]
  exact ⟨rfl, (pop_left28 h2).2, .inr (.inr (.inl rfl))⟩
 rw [if_neg h2]
 by_cases h3 : isC (.nm tCall) s = true
 ·rw [if_pos h3]
  exact ⟨rfl, (pop_left28 h3).2, .inr (.inr (.inr (.inl rfl)))⟩
 rw [if_neg h3]
 exact ⟨rfl, rfl, .inr (.inr (.inr (.inr rfl)))⟩
theorem ins_in04 {o d : Int} {s : Cur} (ho : o = 1 ∨ (2 ≤ o ∧ o ≤ 10) ∨ o = 11 ∨ o = 13 ∨ o = 14) (hd : o ≠ 13 → vOk d = true) (hd' : d ≠ 0 → vOk d = true) (h : (insC false o d s).2.e = 0) :
  s.e = 0 ∧ InsR (insC false o d s).1 ∧ leftC (insC false o d s).2 + (insWs (insC false o d s).1).length ≤ leftC s + (leftWs d).length + (if o = 14 then 0 else 1) := by
 unfold insC at h ⊢
 by_cases e1 : o = 1
 ·subst e1
  rw [if_pos rfl] at h ⊢
  obtain ⟨h1, h2, h3⟩ := imm_in04 h
  refine ⟨h1, { op := by simp, many := rfl, call := by simp, no := by simp, dst := fun _ _ => hd (by decide), dst0 := by simp, a := by simp, a0 := by simp, b := by simp, b0 := by simp, imm := fun _ => h2, imm0 := by simp }, ?_⟩
  simp only [insWs, if_pos, List.length_append, List.length_cons, List.length_nil]
  rw [if_neg (by decide)]
  omega
 rw [if_neg e1] at h ⊢
 by_cases e2 : o = 13
 ·subst e2
  rw [if_pos rfl] at h ⊢
  simp only at h ⊢
  obtain ⟨h1, l, h2, h3, h4, _, h5⟩ := some_in04 (u := false) ([], (numC 0 99 s).2) h
  simp only [List.nil_append] at h1 h2 h4 h5
  obtain ⟨n1, n2, n3, n4⟩ := num_ok28 h1
  rw [h2]
  refine ⟨n1, { op := by simp, many := rfl, call := fun _ => ⟨rfl, rfl, rfl, n2, n3, hd', h4 (by simp), h3⟩, no := by simp, dst := by simp, dst0 := by simp, a := by simp, a0 := by simp, b := by simp, b0 := by simp, imm := by simp, imm0 := by simp }, ?_⟩
  have e : (insWs ⟨13, d, 0, 0, 0, (numC 0 99 s).1, l, 0⟩).length = (leftWs d).length + (2 + l.length) := by simp [insWs]; omega
  rw [e, if_neg (by decide)]
  omega
 rw [if_neg e2] at h ⊢
 simp only at h ⊢
 by_cases e3 : o = 11
 ·subst e3
  rw [if_neg (show ¬ (11 : Int) ≤ 10 by decide), if_pos (rfl : (11 : Int) = 11)] at h ⊢
  obtain ⟨h1, h2, h3⟩ := imm_in04 h
  obtain ⟨v1, v2, _, v4⟩ := var_in04 h1
  refine ⟨v1, { op := by simp, many := rfl, call := by simp, no := by simp, dst := fun _ _ => hd (by decide), dst0 := by simp, a := fun _ _ => v2, a0 := by simp, b := by simp, b0 := by simp, imm := fun _ => h2, imm0 := by simp }, ?_⟩
  have e : (insWs ⟨11, d, (varC s).1, 0, (immC (varC s).2).1, 0, [], 0⟩).length = (leftWs d).length + 3 := by simp [insWs]
  simp only
  rw [e, if_neg (by decide)]
  omega
 rw [if_neg e3] at h ⊢
 by_cases e4 : o = 14
 ·subst e4
  rw [if_neg (by decide)] at h ⊢
  obtain ⟨v1, v2, _, v4⟩ := var_in04 h
  refine ⟨v1, { op := by simp, many := rfl, call := by simp, no := by simp, dst := fun _ _ => hd (by decide), dst0 := by simp, a := fun _ _ => v2, a0 := by simp, b := by simp, b0 := by simp, imm := by simp, imm0 := by simp }, ?_⟩
  have e : (insWs ⟨14, d, (varC s).1, 0, 0, 0, [], 0⟩).length = (leftWs d).length + 1 := by simp [insWs]
  simp only
  rw [e, if_pos trivial]
  omega
 have o1 : 2 ≤ o := by omega
 have o2 : o ≤ 10 := by omega
 rw [if_pos o2] at h ⊢
 obtain ⟨w1, w2, _, w4⟩ := var_in04 h
 obtain ⟨v1, v2, _, v4⟩ := var_in04 w1
 refine ⟨v1, { op := ⟨by show 1 ≤ o; omega, by show o ≤ 14; omega⟩, many := rfl, call := fun h => absurd h e2, no := fun _ => ⟨rfl, rfl⟩, dst := fun _ _ => hd e2, dst0 := fun h => by simp only at h; omega, a := fun _ _ => v2, a0 := fun h => absurd h e1, b := fun _ _ => w2, b0 := fun h => by simp only at h; omega, imm := fun h => by simp only at h; omega, imm0 := fun _ _ => rfl }, ?_⟩
 have e : (insWs ⟨o, d, (varC s).1, (varC (varC s).2).1, 0, 0, [], 0⟩).length = (leftWs d).length + 3 := by
  unfold insWs
  simp only
  rw [if_neg e1, if_neg e3, if_neg (by omega), if_neg e2, if_neg e4]
  simp
 simp only at w4 ⊢
 rw [e, if_neg e4]
 omega
def LnR : Ln → Prop
 | .ins i => InsR i
 | .term t => TermR t
def lnN : Ln → Nat
 | .ins i => (insWs i).length
 | .term t => (termWs t).length
theorem one_in04 {s : Cur} (h : (oneC false s).2.e = 0) : s.e = 0 ∧ LnR (oneC false s).1 ∧ leftC (oneC false s).2 + lnN (oneC false s).1 ≤ leftC s := by
 unfold oneC at h ⊢
 by_cases h1 : isC (.nm tTrap) s = true
 ·rw [if_pos h1] at h ⊢
  obtain ⟨p1, p2⟩ := pop_left28 h1
  exact ⟨p1, ⟨by simp, by simp, by simp, by simp, by simp, by simp, by simp⟩, by show leftC (popC s) + 1 ≤ _; omega⟩
 rw [if_neg h1] at h ⊢
 by_cases h2 : isC (.nm tReturn) s = true
 ·rw [if_pos h2] at h ⊢
  obtain ⟨p1, p2⟩ := pop_left28 h2
  simp only at h ⊢
  by_cases he : endsC (popC s) = true
  ·rw [if_pos he] at h ⊢
   exact ⟨p1, ⟨by simp, by simp, by simp, by simp, by simp, by simp, by simp⟩, by show leftC (popC s) + 1 ≤ _; omega⟩
  ·rw [if_neg he] at h ⊢
   obtain ⟨v1, v2, _, v4⟩ := var_in04 h
   have hz := vOk_in v2
   refine ⟨v1, ⟨by simp [termL], by simp [termL], by simp [termL], fun _ => ⟨fun _ => v2, rfl, rfl⟩, by simp [termL], by simp [termL], by simp [termL]⟩, ?_⟩
   have e : (termWs ⟨3, (varC (popC s)).1, 0, 0⟩).length = 2 := by
    unfold termWs
    simp only
    rw [if_neg (by decide), if_neg (by decide), if_pos trivial, if_neg (by omega)]
    rfl
   show leftC (varC (popC s)).2 + (termWs ⟨3, (varC (popC s)).1, 0, 0⟩).length ≤ _
   rw [e]; omega
 rw [if_neg h2] at h ⊢
 by_cases h3 : isC (.mk tArrow) s = true
 ·rw [if_pos h3] at h ⊢
  obtain ⟨p1, p2⟩ := pop_left28 h3
  obtain ⟨n1, n2, n3, n4⟩ := num_ok28 h
  refine ⟨n1, ⟨by simp [termL], by simp [termL], by simp [termL], by simp [termL], by simp [termL], ⟨n2, by show _ < (64 : Int); simp only; omega⟩, by simp [termL]⟩, ?_⟩
  show leftC (numC 0 63 (popC s)).2 + 2 ≤ _
  omega
 rw [if_neg h3] at h ⊢
 by_cases h4 : isC (.nm tStore) s = true
 ·rw [if_pos h4] at h ⊢
  obtain ⟨p1, p2⟩ := pop_left28 h4
  simp only at h ⊢
  obtain ⟨w1, w2, _, w4⟩ := var_in04 h
  obtain ⟨i1, i2, i3⟩ := imm_in04 w1
  obtain ⟨v1, v2, _, v4⟩ := var_in04 i1
  refine ⟨v1, { op := by simp, many := rfl, call := by simp, no := by simp, dst := by simp, dst0 := by simp, a := fun _ _ => v2, a0 := by simp, b := fun _ _ => w2, b0 := by simp, imm := fun _ => i2, imm0 := by simp }, ?_⟩
  show leftC _ + 4 ≤ _
  omega
 rw [if_neg h4] at h ⊢
 by_cases h5 : isC (.nm tCall) s = true
 ·rw [if_pos h5] at h ⊢
  obtain ⟨p1, p2⟩ := pop_left28 h5
  obtain ⟨i1, i2, i3⟩ := ins_in04 (o := 13) (d := 0) (by simp) (by simp) (by simp) h
  refine ⟨i1, i2, ?_⟩
  rw [if_neg (by decide), show (leftWs 0).length = 0 from rfl] at i3
  show leftC _ + (insWs _).length ≤ _
  simp only [insL]
  omega
 rw [if_neg h5] at h ⊢
 simp only at h ⊢
 by_cases h6 : isC (.mk tArrow) (varC s).2 = true
 ·rw [if_pos h6] at h ⊢
  obtain ⟨p1, p2⟩ := pop_left28 h6
  obtain ⟨m1, m2, m3, m4⟩ := num_ok28 h
  obtain ⟨n1, n2, n3, n4⟩ := num_ok28 m1
  obtain ⟨v1, v2, _, v4⟩ := var_in04 p1
  refine ⟨v1, ⟨by simp [termL], by simp [termL], fun _ => v2, by simp [termL], by simp [termL], ⟨n2, by show _ < (64 : Int); simp only; omega⟩, ⟨m2, by show _ < (64 : Int); simp only; omega⟩⟩, ?_⟩
  show leftC _ + 4 ≤ _
  simp only [termL]
  omega
 rw [if_neg h6] at h ⊢
 obtain ⟨o1, o2, o3⟩ := op_in04 (markC [tLeft] (varC s).2)
 have hs : (insC false (opC (markC [tLeft] (varC s).2)).1 (varC s).1 (opC (markC [tLeft] (varC s).2)).2).2.e = 0 → (varC s).2.e = 0 ∧ leftC (markC [tLeft] (varC s).2) + 1 = leftC (varC s).2 ∧ vOk (varC s).1 = true := fun h => by
  have hm : (markC [tLeft] (varC s).2).e = 0 := by
   rw [← o1]
   by_cases hz : (opC (markC [tLeft] (varC s).2)).2.e = 0
   ·exact hz
   ·exfalso
    have := alive_ins false (opC (markC [tLeft] (varC s).2)).1 (varC s).1 (opC (markC [tLeft] (varC s).2)).2
    rw [alive_bad hz] at this
    have := alive_e h
    omega
  obtain ⟨m1, m2⟩ := mark_ok28 hm
  exact ⟨m1, m2, (var_in04 m1).2.1⟩
 obtain ⟨a1, a2, a3⟩ := hs h
 obtain ⟨v1, v2, _, v4⟩ := var_in04 a1
 obtain ⟨i1, i2, i3⟩ := ins_in04 o3 (fun _ => a3) (fun _ => a3) h
 refine ⟨v1, i2, ?_⟩
 have e : (leftWs (varC s).1).length = 2 := by
  have := vOk_in a3
  unfold leftWs
  rw [if_pos (by omega)]; rfl
 rw [e] at i3
 show leftC _ + (insWs _).length ≤ _
 simp only [insL]
 omega
end Go.Proofs.YtljglhaeonbfoaaGreatDoor
namespace Go.Proofs.YtljglhaeonbfoaaGreatDoor
def wordsN : List (List Word) → Nat
 | [] => 0
 | p :: l => p.length + wordsN l
theorem wordsN_app : ∀ a b : List (List Word), wordsN (a ++ b) = wordsN a + wordsN b
 | [], b => by simp [wordsN]
 | p :: a, b => by show _ + wordsN (a ++ b) = _; rw [wordsN_app a b]; simp only [wordsN]; omega
theorem blk_in04 (x : (Block × Bool) × Cur) : (blkC false x).2.e = 0 → (x.1.2 = true → blkC false x = x) ∧ (x.1.2 = false → x.2.e = 0 ∧ ∃ is, (blkC false x).1.1.ins = x.1.1.ins ++ is ∧ (∀ i ∈ is, InsR i) ∧ (x.1.1.ins.length ≤ 64 → (x.1.1.ins ++ is).length ≤ 64) ∧ TermR (blkC false x).1.1.term ∧ leftC (blkC false x).2 + wordsN (is.map insWs) + (termWs (blkC false x).1.1.term).length ≤ leftC x.2) := by
 refine run_ind (blkG_dec (q := false)) (P := fun x r => r.2.e = 0 → (x.1.2 = true → r = x) ∧ (x.1.2 = false → x.2.e = 0 ∧ ∃ is, r.1.1.ins = x.1.1.ins ++ is ∧ (∀ i ∈ is, InsR i) ∧ (x.1.1.ins.length ≤ 64 → (x.1.1.ins ++ is).length ≤ 64) ∧ TermR r.1.1.term ∧ leftC r.2 + wordsN (is.map insWs) + (termWs r.1.1.term).length ≤ leftC x.2)) ?_ ?_ x
 ·intro x hg he
  refine ⟨fun _ => rfl, fun hf => ?_⟩
  unfold blkG at hg
  split at hg
  ·rename_i h
   rcases h with h | h
   ·rw [hf] at h; cases h
   ·exact absurd he h
  ·split at hg <;> cases hg
 ·intro x y r hg ih he
  unfold blkG at hg
  split at hg
  ·cases hg
  rename_i hn
  refine ⟨fun h => absurd (.inl h) hn, fun hf => ?_⟩
  split at hg
  ·rename_i t ht
   injection hg with hg; subst hg
   have hr := (ih he).1 rfl
   subst hr
   obtain ⟨e1, e2⟩ := end_ok28 he
   obtain ⟨o1, o2, o3⟩ := one_in04 e1
   rw [ht] at o2 o3
   refine ⟨o1, [], by simp, fun _ h => (by cases h), fun h => by simpa using h, o2, ?_⟩
   show leftC (endC (oneC false x.2).2) + 0 + (termWs t).length ≤ _
   have : (termWs t).length = lnN (.term t) := rfl
   omega
  ·rename_i i hi
   injection hg with hg; subst hg
   obtain ⟨c1, is, c2, c3, c4, c5, c6⟩ := (ih he).2 rfl
   simp only at c1 c2 c4 c6
   obtain ⟨e1, e2⟩ := end_ok28 c1
   have hl : ¬ x.1.1.ins.length = 64 := fun h => by
    rw [if_pos h] at e1
    exact absurd e1 (fail_e28 (by decide) _)
   rw [if_neg hl] at e1 e2 c6
   obtain ⟨o1, o2, o3⟩ := one_in04 e1
   rw [hi] at o2 o3
   have e8 : (x.1.1.ins ++ [i]).length = x.1.1.ins.length + 1 := by simp
   refine ⟨o1, i :: is, by rw [c2]; simp, fun j hj => ?_, fun h8 => ?_, c5, ?_⟩
   ·rcases List.mem_cons.1 hj with rfl | hj
    ·exact o2
    ·exact c3 j hj
   ·have hl' : x.1.1.ins.length < 64 := Nat.lt_of_le_of_ne h8 hl
    have := c4 (by rw [e8]; exact hl')
    simpa using this
   ·show _ + ((insWs i).length + wordsN (is.map insWs)) + _ ≤ _
    have : (insWs i).length = lnN (.ins i) := rfl
    omega
theorem key_in04 {t : ByteArray} {s : Cur} (h : (keyC t s).e = 0) : s.e = 0 ∧ leftC (keyC t s) + 1 = leftC s := by
 unfold keyC at h ⊢
 by_cases hi : isC (.nm t) s = true
 ·rw [if_pos hi] at h ⊢; exact pop_left28 hi
 ·rw [if_neg hi] at h; exact absurd h (fail_e28 (by decide) _)
theorem whole_in04 {n : Nat} {s : Cur} (h : (wholeC false n s).2.e = 0) : s.e = 0 ∧ n ≠ 64 ∧ BlockR (wholeC false n s).1 ∧ leftC (wholeC false n s).2 + wordsN (blockWs n (wholeC false n s).1) ≤ leftC s := by
 unfold wholeC at h ⊢
 simp only at h ⊢
 obtain ⟨c1, is, c2, c3, c4, c5, c6⟩ := (blk_in04 ((⟨[], zeroTerm⟩, false), headB n s) h).2 rfl
 simp only [List.nil_append] at c1 c2 c4 c6
 have c1' := c1
 unfold headB at c1'
 obtain ⟨e1, e2⟩ := end_ok28 c1'
 obtain ⟨n1, n2, n3, n4⟩ := num_ok28 e1
 obtain ⟨k1, k2⟩ := key_in04 n1
 have hn : n ≠ 64 := fun h => by
  rw [if_pos h] at k1
  exact absurd k1 (fail_e28 (by decide) _)
 rw [if_neg hn] at k1
 have e2' : leftC (headB n s) + 2 ≤ leftC s := by
  unfold headB
  rw [if_neg hn] at e2 n4 k2 ⊢
  omega
 refine ⟨k1, hn, ⟨by rw [c2]; exact c4 (by simp), by rw [c2]; exact c3, c5⟩, ?_⟩
 have e : wordsN (blockWs n (blkC false ((⟨[], zeroTerm⟩, false), headB n s)).1.1) = 2 + (wordsN (is.map insWs) + ((termWs (blkC false ((⟨[], zeroTerm⟩, false), headB n s)).1.1.term).length + 0)) := by
  unfold blockWs
  show 2 + wordsN _ = _
  rw [c2, wordsN_app]
  rfl
 rw [e]
 omega
theorem blocksWs_app : ∀ (a b : List Block) (n : Nat), blocksWs n (a ++ b) = blocksWs n a ++ blocksWs (n + a.length) b
 | [], b, n => by simp [blocksWs]
 | x :: a, b, n => by
  show blockWs n x ++ blocksWs (n + 1) (a ++ b) = (blockWs n x ++ blocksWs (n + 1) a) ++ blocksWs (n + (a.length + 1)) b
  rw [blocksWs_app a b (n + 1), List.append_assoc, show n + 1 + a.length = n + (a.length + 1) by omega]
theorem blocks_in04 (x : List Block × Cur) : (fnBlocksC false x).2.e = 0 → x.2.e = 0 ∧ ((∀ b ∈ x.1, BlockR b) → x.1.length ≤ 64 → (∀ b ∈ (fnBlocksC false x).1, BlockR b) ∧ (fnBlocksC false x).1.length ≤ 64 ∧ 1 ≤ (fnBlocksC false x).1.length ∧ leftC (fnBlocksC false x).2 + wordsN (blocksWs 0 (fnBlocksC false x).1) ≤ leftC x.2 + wordsN (blocksWs 0 x.1)) := by
 refine run_ind (blocksG_dec (q := false)) (P := fun x r => r.2.e = 0 → x.2.e = 0 ∧ ((∀ b ∈ x.1, BlockR b) → x.1.length ≤ 64 → (∀ b ∈ r.1, BlockR b) ∧ r.1.length ≤ 64 ∧ 1 ≤ r.1.length ∧ leftC r.2 + wordsN (blocksWs 0 r.1) ≤ leftC x.2 + wordsN (blocksWs 0 x.1))) ?_ ?_ x
 ·intro x hg he
  refine ⟨he, fun hb hl => ⟨hb, hl, ?_, Nat.le_refl _⟩⟩
  unfold blocksG at hg
  split at hg
  ·cases hg
  ·rename_i hn
   cases hx : x.1 with
   | nil => exact absurd (.inl hx) hn
   | cons _ _ => simp
 ·intro x y r hg ih he
  unfold blocksG at hg
  split at hg
  ·injection hg with hg; subst hg
   obtain ⟨c0, c1⟩ := ih he
   obtain ⟨w1, w2, w3, w4⟩ := whole_in04 c0
   refine ⟨w1, fun hb hl => ?_⟩
   have e8 : (x.1 ++ [(wholeC false x.1.length x.2).1]).length = x.1.length + 1 := by simp
   have hl' : x.1.length < 64 := Nat.lt_of_le_of_ne hl w2
   obtain ⟨c2, c3, c4, c5⟩ := c1 (fun b hb' => by
    rcases List.mem_append.1 hb' with hb' | hb'
    ·exact hb b hb'
    ·obtain rfl := List.mem_singleton.1 hb'
     exact w3) (by rw [e8]; exact hl')
   refine ⟨c2, c3, c4, ?_⟩
   simp only at c5
   have e : wordsN (blocksWs 0 (x.1 ++ [(wholeC false x.1.length x.2).1])) = wordsN (blocksWs 0 x.1) + wordsN (blockWs x.1.length (wholeC false x.1.length x.2).1) := by
    rw [blocksWs_app, wordsN_app]
    show _ + wordsN (blockWs (0 + x.1.length) _ ++ []) = _
    rw [List.append_nil, Nat.zero_add]
   omega
  ·cases hg
theorem fn_in04 {s : Cur} (h : (fnC false s).2.e = 0) : FncR (fnC false s).1 ∧ wordsN (fnWs (fnC false s).1) ≤ leftC s := by
 unfold fnC at h ⊢
 simp only at h ⊢
 obtain ⟨a1, a2⟩ := blocks_in04 ([], endC (someC false true ([], keyC tFun s)).2) h
 obtain ⟨b1, b2, b3, b4⟩ := a2 (fun _ h => by cases h) (by simp)
 obtain ⟨c1, c2⟩ := end_ok28 a1
 obtain ⟨d1, l, d2, d3, d4, d5, d6⟩ := some_in04 (u := true) ([], keyC tFun s) c1
 obtain ⟨e1, e2⟩ := key_in04 d1
 simp only [List.nil_append] at d2 d4 d5 d6 b4
 rw [d2]
 refine ⟨⟨d3, d4 (by simp), d5 trivial (by simp), b1, b3, b2⟩, ?_⟩
 show (l.map vrW).length + 1 + wordsN (blocksWs 0 (fnBlocksC false ([], endC (someC false true ([], keyC tFun s)).2)).1) ≤ _
 rw [List.length_map]
 have hz : wordsN (blocksWs 0 []) = 0 := rfl
 rw [hz] at b4
 omega
theorem tailX_sz : ∀ l : List ByteArray, (∀ x ∈ l, x.size ≤ 21) → (tailX l).size ≤ 22 * l.length
 | [], _ => by simp [tailX]
 | y :: l, h => by
  have ih := tailX_sz l fun x hx => h x (List.mem_cons_of_mem _ hx)
  have h1 := h y (by simp)
  have h2 : (⟨#[32]⟩ : ByteArray).size = 1 := rfl
  show ((⟨#[32]⟩ ++ y) ++ tailX l).size ≤ _
  rw [ByteArray.size_append, ByteArray.size_append, h2, List.length_cons]
  omega
theorem lineX_sz {ps : List Word} (hne : ps ≠ []) (h : ∀ p ∈ ps, p.text.size ≤ 21) : (lineX ps).size ≤ 22 * ps.length := by
 cases ps with
 | nil => exact absurd rfl hne
 | cons p ps =>
  have h1 := h p (by simp)
  have h2 := tailX_sz (ps.map (·.text)) fun x hx => by
   obtain ⟨q, hq, rfl⟩ := List.mem_map.1 hx
   exact h q (List.mem_cons_of_mem _ hq)
  have h3 : (⟨#[10]⟩ : ByteArray).size = 1 := rfl
  show ((p.text ++ tailX (ps.map (·.text))) ++ ⟨#[10]⟩).size ≤ _
  rw [ByteArray.size_append, ByteArray.size_append, h3, List.length_cons]
  rw [List.length_map] at h2
  omega
theorem linesX_sz : ∀ (L : List (List Word)) (acc : ByteArray), (∀ ps ∈ L, ps ≠ [] ∧ ∀ p ∈ ps, p.text.size ≤ 21) → (linesX acc L).size ≤ acc.size + 22 * wordsN L
 | [], acc, _ => by simp [linesX, wordsN]
 | ps :: L, acc, h => by
  have h1 := lineX_sz (h ps (by simp)).1 (h ps (by simp)).2
  have h2 := linesX_sz L (acc ++ lineX ps) fun q hq => h q (List.mem_cons_of_mem _ hq)
  rw [ByteArray.size_append] at h2
  show (linesX (acc ++ lineX ps) L).size ≤ _
  simp only [wordsN]
  omega
theorem key_sz04 {n : Nat} (h : n < 1000) : (keyB 118 n).size ≤ 21 := by
 have := dec_len4 h
 unfold keyB
 show ((118 : UInt8) :: Lib.decDigits n).toArray.size ≤ 21
 simp
 omega
theorem pw_sz : PW fun p => p.text.size ≤ 21 where
 vr h := by
  obtain ⟨h1, h2⟩ := vOk_in h
  exact key_sz04 (by omega)
 kw h := by
  simp only [kwsB, opsB, List.cons_append, List.nil_append, List.mem_cons, List.not_mem_nil, or_false] at h
  rcases h with rfl | rfl | rfl | rfl | rfl | rfl | rfl | rfl | rfl | rfl | rfl | rfl | rfl | rfl | rfl | rfl | rfl <;> decide
 mkL := by decide
 mkR := by decide
 num h1 h2 := itoa_sz28 _ ⟨by omega, by omega⟩
theorem show_sz04 {f : Fnc} (h : FncR f) : (show04 f).size ≤ 22 * wordsN (fnWs f) := by
 have h1 := linesX_sz (fnWs f) ByteArray.empty (all_fn pw_sz h)
 have h2 : (ByteArray.empty).size = 0 := rfl
 rw [h2] at h1
 unfold show04
 omega
theorem parse_right04 {s : ByteArray} {f : Fnc} {l k : Int} (hs : s.size ≤ 3000) (h : parse04 false s = (f, l, k, 0)) : l = 0 ∧ k = 0 ∧ FncR f ∧ (show04 f).size ≤ 262144 := by
 unfold parse04 at h
 rw [if_neg (by omega)] at h
 by_cases he : (errC (fnC false (overT s)).2).2.2 ≠ 0
 ·rw [if_pos he] at h
  have := congrArg (fun x => x.2.2.2) h
  exact absurd this he
 ·rw [if_neg he] at h
  injection h with h1 h2
  injection h2 with h2 h3
  injection h3 with h3 h4
  have he0 : (fnC false (overT s)).2.e = 0 := by
   by_cases hz : (fnC false (overT s)).2.e = 0
   ·exact hz
   ·exfalso; apply he; unfold errC; rw [if_pos hz]; exact hz
  obtain ⟨a1, a2⟩ := fn_in04 he0
  rw [h1] at a1 a2
  have a3 := over_left28 s
  have a4 := show_sz04 a1
  exact ⟨h2.symm, h3.symm, a1, by omega⟩
theorem parse_bad04 {s : ByteArray} {f : Fnc} {l k e : Int} (h : parse04 false s = (f, l, k, e)) (he : e ≠ 0) : f = ⟨[], []⟩ := by
 unfold parse04 at h
 split at h
 ·injection h with h1 _; exact h1.symm
 ·split at h
  ·injection h with h1 _; exact h1.symm
  ·injection h with h1 h2
   injection h2 with h2 h3
   injection h3 with h3 h4
   exact absurd h4.symm he
end Go.Proofs.YtljglhaeonbfoaaGreatDoor
namespace Go.Proofs.YtljglhaeonbfoaaGreatDoor
def cleanB (t : ByteArray) : Prop := ∀ b ∈ t.data.toList, b ≠ 10 ∧ b ≠ 32
theorem dec_clean (n : Nat) : ∀ b ∈ Lib.decDigits n, b ≠ 10 ∧ b ≠ 32 := by
 intro b hb
 have h := (can_dec n).1.isD (b.toNat : Int) (List.mem_map.2 ⟨b, hb, rfl⟩)
 constructor
 ·rintro rfl; exact absurd h (by decide)
 ·rintro rfl; exact absurd h (by decide)
theorem key_clean (n : Nat) : cleanB (keyB 118 n) := by
 intro b hb
 rw [← ByteArray.toList_eq, key_list] at hb
 rcases List.mem_cons.1 hb with rfl | hb
 ·decide
 ·exact dec_clean _ b hb
theorem itoa_clean (n : Int) : cleanB (itoaB n) := by
 intro b hb
 have e : (itoaB n).data.toList = Lib.itoa n := by unfold itoaB; simp
 rw [e] at hb
 unfold Lib.itoa at hb
 split at hb
 ·rcases List.mem_cons.1 hb with rfl | hb
  ·decide
  ·exact dec_clean _ b hb
 ·exact dec_clean _ b hb
theorem pw_clean : PW fun p => cleanB p.text where
 vr h := key_clean _
 kw h := by
  simp only [kwsB, opsB, List.cons_append, List.nil_append, List.mem_cons, List.not_mem_nil, or_false] at h
  rcases h with rfl | rfl | rfl | rfl | rfl | rfl | rfl | rfl | rfl | rfl | rfl | rfl | rfl | rfl | rfl | rfl | rfl <;> (unfold cleanB; decide)
 mkL := by unfold cleanB; decide
 mkR := by unfold cleanB; decide
 num h1 h2 := itoa_clean _
theorem clean_wx {t : ByteArray} (h : cleanB t) : (wxB t.data.toList).length = t.size := by rw [wxB_keep _ h, size_list]
structure TxtOk (p : Word) : Prop where
 s : p.text.size ≤ 21
 c : cleanB p.text
theorem pw_txt : PW TxtOk where
 vr h := ⟨pw_sz.vr h, pw_clean.vr h⟩
 kw h := ⟨pw_sz.kw h, pw_clean.kw h⟩
 mkL := ⟨pw_sz.mkL, pw_clean.mkL⟩
 mkR := ⟨pw_sz.mkR, pw_clean.mkR⟩
 num h1 h2 := ⟨pw_sz.num h1 h2, pw_clean.num h1 h2⟩
theorem wx_app (a b : ByteArray) : (wxB (a ++ b).data.toList).length = (wxB a.data.toList).length + (wxB b.data.toList).length := by
 rw [ByteArray.data_append, Array.toList_append, wxB_append, List.length_append]
theorem tailX_wx : ∀ l : List Word, (∀ p ∈ l, TxtOk p) → (wxB (tailX (l.map (·.text))).data.toList).length ≤ 24 * l.length
 | [], _ => by simp [tailX, wxB]
 | p :: l, h => by
  have ih := tailX_wx l fun x hx => h x (List.mem_cons_of_mem _ hx)
  have hp := h p (by simp)
  have h1 := clean_wx hp.c
  have h2 := hp.s
  have h3 : (wxB (⟨#[32]⟩ : ByteArray).data.toList).length = 3 := by decide
  show (wxB ((⟨#[32]⟩ ++ p.text) ++ tailX (l.map (·.text))).data.toList).length ≤ _
  rw [wx_app, wx_app, h1, h3, List.length_cons]
  omega
theorem lineX_wx {ps : List Word} (hne : ps ≠ []) (h : ∀ p ∈ ps, TxtOk p) : (wxB (lineX ps).data.toList).length ≤ 34 * ps.length := by
 cases ps with
 | nil => exact absurd rfl hne
 | cons p ps =>
  have hp := h p (by simp)
  have h1 := clean_wx hp.c
  have h2 := tailX_wx ps fun q hq => h q (List.mem_cons_of_mem _ hq)
  have h3 : (wxB (⟨#[10]⟩ : ByteArray).data.toList).length = 13 := by decide
  have h4 := hp.s
  show (wxB ((p.text ++ tailX (ps.map (·.text))) ++ ⟨#[10]⟩).data.toList).length ≤ _
  rw [wx_app, wx_app, h1, h3, List.length_cons]
  omega
theorem linesX_wx : ∀ (L : List (List Word)) (acc : ByteArray), (∀ ps ∈ L, ps ≠ [] ∧ ∀ p ∈ ps, TxtOk p) → (wxB (linesX acc L).data.toList).length ≤ (wxB acc.data.toList).length + 34 * wordsN L
 | [], acc, _ => by simp [linesX, wordsN]
 | ps :: L, acc, h => by
  have h1 := lineX_wx (h ps (by simp)).1 (h ps (by simp)).2
  have h2 := linesX_wx L (acc ++ lineX ps) fun q hq => h q (List.mem_cons_of_mem _ hq)
  rw [wx_app] at h2
  show (wxB (linesX (acc ++ lineX ps) L).data.toList).length ≤ _
  simp only [wordsN]
  omega
def argsS : List Ins → Nat
 | [] => 0
 | i :: l => i.args.length + argsS l
def blksS : List Block → Nat
 | [] => 0
 | b :: l => 1 + b.ins.length + argsS b.ins + blksS l
def fnS (f : Fnc) : Nat := f.params.length + blksS f.blocks
theorem argsOf_sum (most : Int) : ∀ (l : List Ins) (n : Int), argsOf most n l ≤ most → argsOf most n l = n + (argsS l : Nat)
 | [], n, _ => by simp [argsOf, argsS]
 | i :: l, n, h => by
  unfold argsOf at h ⊢
  split at h
  ·rename_i hn
   rw [if_pos hn, argsOf_sum most l _ h]
   simp only [argsS]
   omega
  ·rename_i hn; exact absurd h hn
theorem blocksOf_ge (most : Int) : ∀ (l : List Block) (n : Int), most < n → blocksOf most n l = n
 | [], n, _ => rfl
 | b :: l, n, h => by unfold blocksOf; rw [if_neg (by omega)]
theorem blocksOf_sum (most : Int) : ∀ (l : List Block) (n : Int), blocksOf most n l ≤ most → blocksOf most n l = n + (blksS l : Nat)
 | [], n, _ => by simp [blocksOf, blksS]
 | b :: l, n, h => by
  have e : blocksOf most n (b :: l) = if n ≤ most then blocksOf most (argsOf most (n + 1 + b.ins.length) b.ins) l else n := rfl
  rw [e] at h ⊢
  split at h
  ·rename_i hn
   rw [if_pos hn]
   by_cases ha : argsOf most (n + 1 + b.ins.length) b.ins ≤ most
   ·rw [blocksOf_sum most l _ h, argsOf_sum most _ _ ha]
    simp only [blksS]
    omega
   ·rw [blocksOf_ge most l _ (by omega)] at h
    exact absurd h ha
  ·rename_i hn; exact absurd h hn
theorem insWs_len (i : Ins) : (insWs i).length ≤ 5 + i.args.length := by
 have h : (leftWs i.dst).length ≤ 2 := by unfold leftWs; split <;> simp
 unfold insWs
 repeat' split
 all_goals simp
 all_goals omega
theorem termWs_len (t : Term) : (termWs t).length ≤ 4 := by
 unfold termWs
 repeat' split
 all_goals simp
theorem insN_le : ∀ l : List Ins, wordsN (l.map insWs) ≤ 5 * l.length + argsS l
 | [] => Nat.le_refl _
 | i :: l => by
  have ih := insN_le l
  have := insWs_len i
  rw [List.map_cons, List.length_cons]
  simp only [wordsN, argsS]
  omega
theorem blocksN_le : ∀ (l : List Block) (n : Nat), wordsN (blocksWs n l) ≤ 6 * blksS l
 | [], _ => Nat.le_refl _
 | b :: l, n => by
  have ih := blocksN_le l (n + 1)
  have h1 := insN_le b.ins
  have h2 := termWs_len b.term
  show wordsN (blockWs n b ++ blocksWs (n + 1) l) ≤ _
  rw [wordsN_app]
  unfold blockWs
  show 2 + wordsN (b.ins.map insWs ++ [termWs b.term]) + _ ≤ _
  rw [wordsN_app]
  simp only [wordsN, blksS]
  omega
theorem fnN_le (f : Fnc) : wordsN (fnWs f) ≤ 6 * fnS f + 1 := by
 have := blocksN_le f.blocks 0
 show (f.params.map vrW).length + 1 + wordsN (blocksWs 0 f.blocks) ≤ _
 rw [List.length_map]
 unfold fnS
 omega
theorem show_fit04 {f : Fnc} (h : FncR f) (hn : fnS f ≤ 700) : (show04 f).size ≤ 262144 ∧ (wxT (show04 f)).size ≤ 262144 := by
 have h1 := show_sz04 h
 have h2 := fnN_le f
 have h3 := linesX_wx (fnWs f) ByteArray.empty (all_fn pw_txt h)
 have h4 : (wxB (ByteArray.empty).data.toList).length = 0 := rfl
 refine ⟨by omega, ?_⟩
 unfold wxT
 rw [mkB_size]
 unfold show04
 omega
end Go.Proofs.YtljglhaeonbfoaaGreatDoor
namespace Go.Proofs.YtljglhaeonbfoaaGreatDoor
end Go.Proofs.YtljglhaeonbfoaaGreatDoor
namespace Go.Proofs.YtljglhaeonbfoaaGreatDoor
section
variable {s : Cur}
end
end Go.Proofs.YtljglhaeonbfoaaGreatDoor
namespace Go.Proofs.YtljglhaeonbfoaaGreatDoor
def hasD04 (o : Int) : Bool := o == 1 || (decide (2 ≤ o) && decide (o ≤ 10)) || o == 11 || o == 14
def hasA04 (o : Int) : Bool := (decide (2 ≤ o) && decide (o ≤ 10)) || o == 11 || o == 12 || o == 14
def hasB04 (o : Int) : Bool := (decide (2 ≤ o) && decide (o ≤ 10)) || o == 12
def hasI04 (o : Int) : Bool := o == 1 || o == 11 || o == 12
def fits04 (has : Bool) (n : Int) : Bool := if has = true then vOk n else n == 0
def insB (i : Ins) : Bool := (decide (1 ≤ i.op) && decide (i.op ≤ 14)) && i.many == 0 &&
 if i.op = 13 then (i.a == 0 && i.b == 0 && i.imm == 0) && (decide (0 ≤ i.callee) && decide (i.callee ≤ 99)) && fits04 (i.dst != 0) i.dst && decide (i.args.length ≤ 8) && i.args.all vOk
 else (hasI04 i.op || i.imm == 0) && immOk i.imm && i.callee == 0 && decide (i.args = []) && fits04 (hasD04 i.op) i.dst && fits04 (hasA04 i.op) i.a && fits04 (hasB04 i.op) i.b
theorem fits_T {b : Bool} {n : Int} (hb : b = true) : (fits04 b n = true) = (vOk n = true) := by unfold fits04; rw [if_pos hb]
theorem fits_F {b : Bool} {n : Int} (hb : b = false) : (fits04 b n = true) = (n = 0) := by unfold fits04; rw [if_neg (by rw [hb]; decide)]; simp
theorem hasD04_iff (o : Int) : hasD04 o = true ↔ o = 1 ∨ (2 ≤ o ∧ o ≤ 10) ∨ o = 11 ∨ o = 14 := by unfold hasD04; simp [or_assoc]
theorem hasA04_iff (o : Int) : hasA04 o = true ↔ (2 ≤ o ∧ o ≤ 10) ∨ o = 11 ∨ o = 12 ∨ o = 14 := by unfold hasA04; simp [or_assoc]
theorem hasB04_iff (o : Int) : hasB04 o = true ↔ (2 ≤ o ∧ o ≤ 10) ∨ o = 12 := by unfold hasB04; simp
theorem hasI04_iff (o : Int) : hasI04 o = true ↔ o = 1 ∨ o = 11 ∨ o = 12 := by unfold hasI04; simp [or_assoc]
theorem fits_of {b : Bool} {n : Int} {p : Prop} (hp : b = true ↔ p) (h1 : p → vOk n = true) (h2 : ¬ p → n = 0) : fits04 b n = true := by
 by_cases h : b = true
 ·rw [fits_T h]; exact h1 (hp.1 h)
 ·rw [fits_F (by simpa using h)]; exact h2 fun x => h (hp.2 x)
theorem of_fits {b : Bool} {n : Int} {p : Prop} (hp : b = true ↔ p) (h : fits04 b n = true) : (p → vOk n = true) ∧ (¬ p → n = 0) := by
 by_cases hb : b = true
 ·rw [fits_T hb] at h; exact ⟨fun _ => h, fun hn => absurd (hp.1 hb) hn⟩
 ·rw [fits_F (by simpa using hb)] at h; exact ⟨fun x => absurd (hp.2 x) hb, fun _ => h⟩
theorem immOk_zero : immOk 0 = true := by decide
theorem insB_iff (i : Ins) : insB i = true ↔ InsR i := by
 constructor
 ·intro h
  unfold insB at h
  simp only [Bool.and_eq_true, decide_eq_true_eq, beq_iff_eq] at h
  obtain ⟨⟨⟨o1, o2⟩, hm⟩, h⟩ := h
  by_cases e : i.op = 13
  ·rw [if_pos e] at h
   simp only [Bool.and_eq_true, decide_eq_true_eq, beq_iff_eq, List.all_eq_true] at h
   obtain ⟨⟨⟨⟨⟨⟨a0, b0⟩, i0⟩, c1, c2⟩, hd⟩, hl⟩, ha⟩ := h
   have hd' := of_fits (p := i.dst ≠ 0) (by simp) hd
   exact { op := ⟨o1, o2⟩, many := hm, call := fun _ => ⟨a0, b0, i0, c1, c2, hd'.1, hl, ha⟩, no := fun h => absurd e h, dst := fun h => absurd e h, dst0 := fun h => by omega, a := fun h => absurd e h, a0 := fun h => by omega, b := fun h1 h2 => by omega, b0 := fun h => by omega, imm := fun h => by omega, imm0 := fun h1 h2 => by omega }
  ·rw [if_neg e] at h
   simp only [Bool.and_eq_true, Bool.or_eq_true, decide_eq_true_eq, beq_iff_eq] at h
   obtain ⟨⟨⟨⟨⟨⟨hi, hk⟩, hc⟩, hl⟩, hd⟩, ha⟩, hb⟩ := h
   have hd' := of_fits (hasD04_iff i.op) hd
   have ha' := of_fits (hasA04_iff i.op) ha
   have hb' := of_fits (hasB04_iff i.op) hb
   rw [hasI04_iff] at hi
   exact { op := ⟨o1, o2⟩, many := hm, call := fun h => absurd h e, no := fun _ => ⟨hc, hl⟩, dst := fun _ _ => hd'.1 (by omega), dst0 := fun h => hd'.2 (by omega), a := fun _ _ => ha'.1 (by omega), a0 := fun h => ha'.2 (by omega), b := fun _ _ => hb'.1 (by omega), b0 := fun h => hb'.2 (by omega), imm := fun _ => hk, imm0 := fun _ _ => by rcases hi with hi | hi <;> omega }
 ·intro h
  obtain ⟨⟨o1, o2⟩, hm, hcall, hno, hdst, hdst0, ha, ha0, hb, hb0, himm, himm0⟩ := h
  unfold insB
  simp only [Bool.and_eq_true, decide_eq_true_eq, beq_iff_eq]
  refine ⟨⟨⟨o1, o2⟩, hm⟩, ?_⟩
  by_cases e : i.op = 13
  ·rw [if_pos e]
   obtain ⟨a0, b0, i0, c1, c2, hd, hl, hA⟩ := hcall e
   simp only [Bool.and_eq_true, decide_eq_true_eq, beq_iff_eq, List.all_eq_true]
   exact ⟨⟨⟨⟨⟨⟨a0, b0⟩, i0⟩, c1, c2⟩, fits_of (p := i.dst ≠ 0) (by simp) hd (fun h => by simpa using h)⟩, hl⟩, hA⟩
  ·rw [if_neg e]
   simp only [Bool.and_eq_true, Bool.or_eq_true, decide_eq_true_eq, beq_iff_eq]
   obtain ⟨hc, hl⟩ := hno e
   have hi : hasI04 i.op = true ∨ i.imm = 0 := by
    rw [hasI04_iff]
    by_cases h : i.op = 1 ∨ i.op = 11 ∨ i.op = 12
    ·exact .inl h
    ·exact .inr (himm0 (by omega) (by omega))
   have hk : immOk i.imm = true := by
    by_cases h : i.op = 1 ∨ i.op = 11 ∨ i.op = 12
    ·exact himm h
    ·rw [himm0 (by omega) (by omega)]; exact immOk_zero
   exact ⟨⟨⟨⟨⟨⟨hi, hk⟩, hc⟩, hl⟩, fits_of (hasD04_iff i.op) (fun h => hdst (by omega) (by omega)) (fun h => hdst0 (by omega))⟩, fits_of (hasA04_iff i.op) (fun h => ha (by omega) (by omega)) (fun h => ha0 (by omega))⟩, fits_of (hasB04_iff i.op) (fun h => hb (by omega) (by omega)) (fun h => hb0 (by omega))⟩
def termB (t : Term) : Bool :=
 if t.kind = 1 then t.a == 0 && t.to1 == 0
 else if t.kind = 2 then vOk t.a
 else if t.kind = 3 then fits04 (t.a != 0) t.a && (t.to0 == 0 && t.to1 == 0)
 else t.kind == 4 && (t.a == 0 && t.to0 == 0 && t.to1 == 0)
def goesB (t : Term) : Bool := (decide (0 ≤ t.to0) && decide (t.to0 < 64)) && (decide (0 ≤ t.to1) && decide (t.to1 < 64))
theorem termB_iff (t : Term) : (termB t && goesB t) = true ↔ TermR t := by
 unfold termB goesB
 simp only [Bool.and_eq_true, decide_eq_true_eq]
 constructor
 ·rintro ⟨h, ⟨x1, x2⟩, y1, y2⟩
  by_cases e1 : t.kind = 1
  ·rw [if_pos e1] at h
   simp only [Bool.and_eq_true, beq_iff_eq] at h
   exact ⟨by omega, fun _ => h, fun h => by omega, fun h => by omega, fun h => by omega, ⟨x1, x2⟩, y1, y2⟩
  rw [if_neg e1] at h
  by_cases e2 : t.kind = 2
  ·rw [if_pos e2] at h
   exact ⟨by omega, fun h => by omega, fun _ => h, fun h => by omega, fun h => by omega, ⟨x1, x2⟩, y1, y2⟩
  rw [if_neg e2] at h
  by_cases e3 : t.kind = 3
  ·rw [if_pos e3] at h
   simp only [Bool.and_eq_true, beq_iff_eq] at h
   have hd' := of_fits (p := t.a ≠ 0) (by simp) h.1
   exact ⟨by omega, fun h => by omega, fun h => by omega, fun _ => ⟨hd'.1, h.2⟩, fun h => by omega, ⟨x1, x2⟩, y1, y2⟩
  rw [if_neg e3] at h
  simp only [Bool.and_eq_true, beq_iff_eq] at h
  exact ⟨by omega, fun h => by omega, fun h => by omega, fun h => by omega, fun _ => ⟨h.2.1.1, h.2.1.2, h.2.2⟩, ⟨x1, x2⟩, y1, y2⟩
 ·intro h
  obtain ⟨⟨k1, k2⟩, hj, hb, hr, ht, x, y⟩ := h
  refine ⟨?_, x, y⟩
  by_cases e1 : t.kind = 1
  ·rw [if_pos e1]; simp [hj e1]
  rw [if_neg e1]
  by_cases e2 : t.kind = 2
  ·rw [if_pos e2]; exact hb e2
  rw [if_neg e2]
  by_cases e3 : t.kind = 3
  ·rw [if_pos e3]
   obtain ⟨h1, h2, h3⟩ := hr e3
   simp only [Bool.and_eq_true, beq_iff_eq]
   exact ⟨fits_of (p := t.a ≠ 0) (by simp) h1 (fun h => by simpa using h), h2, h3⟩
  rw [if_neg e3]
  have e4 : t.kind = 4 := by omega
  obtain ⟨h1, h2, h3⟩ := ht e4
  simp [e4, h1, h2, h3]
def blockB (b : Block) : Bool := decide (b.ins.length ≤ 64) && (termB b.term && goesB b.term) && b.ins.all insB
theorem blockB_iff (b : Block) : blockB b = true ↔ BlockR b := by
 unfold blockB
 simp only [Bool.and_eq_true, decide_eq_true_eq, List.all_eq_true]
 constructor
 ·rintro ⟨⟨h1, h2⟩, h3⟩
  exact ⟨h1, fun i hi => (insB_iff i).1 (h3 i hi), (termB_iff b.term).1 (by simp [h2.1, h2.2])⟩
 ·rintro ⟨h1, h2, h3⟩
  have := (termB_iff b.term).2 h3
  simp only [Bool.and_eq_true] at this
  exact ⟨⟨h1, this⟩, fun i hi => (insB_iff i).2 (h2 i hi)⟩
def parsB : List Int → List Int → Bool
 | _, [] => true
 | seen, p :: l => vOk p && !seen.contains p && parsB (seen ++ [p]) l
theorem parsB_iff : ∀ (l seen : List Int), seen.Nodup → (parsB seen l = true ↔ (∀ x ∈ l, vOk x = true) ∧ (seen ++ l).Nodup)
 | [], seen, hs => by simp [parsB, hs]
 | p :: l, seen, hs => by
  unfold parsB
  simp only [Bool.and_eq_true, Bool.not_eq_true']
  by_cases hp : p ∈ seen
  ·have hc : seen.contains p = true := by simpa using hp
   rw [hc]
   constructor
   ·rintro ⟨⟨_, h⟩, _⟩; cases h
   ·rintro ⟨_, h⟩
    rw [List.nodup_append] at h
    exact absurd rfl (h.2.2 p hp p (by simp))
  ·have hc : seen.contains p = false := by simpa using hp
   have hn : (seen ++ [p]).Nodup := by
    rw [List.nodup_append]
    exact ⟨hs, by simp, fun a ha b hb => by
     obtain rfl := List.mem_singleton.1 hb
     rintro rfl
     exact hp ha⟩
   rw [hc, parsB_iff l _ hn, List.append_assoc]
   simp only [List.mem_cons, forall_eq_or_imp, List.singleton_append, and_true, and_assoc]
def fncB (f : Fnc) : Bool := parsB [] f.params && (decide (f.params.length ≤ 8) && decide (1 ≤ f.blocks.length) && decide (f.blocks.length ≤ 64) && f.blocks.all blockB)
theorem fncB_iff (f : Fnc) : fncB f = true ↔ FncR f := by
 unfold fncB
 simp only [Bool.and_eq_true, decide_eq_true_eq, List.all_eq_true, parsB_iff f.params [] List.nodup_nil, List.nil_append]
 constructor
 ·rintro ⟨⟨h1, h2⟩, ⟨⟨h3, h4⟩, h5⟩, h6⟩
  exact ⟨h1, h3, h2, fun b hb => (blockB_iff b).1 (h6 b hb), h4, h5⟩
 ·rintro ⟨h1, h2, h3, h4, h5, h6⟩
  exact ⟨⟨h1, h3⟩, ⟨⟨h2, h5⟩, h6⟩, fun b hb => (blockB_iff b).2 (h4 b hb)⟩
def print04 (f : Fnc) : ByteArray × Int := if fncB f = true then (show04 f, 0) else (ByteArray.empty, 2)
end Go.Proofs.YtljglhaeonbfoaaGreatDoor
namespace Go.Proofs.YtljglhaeonbfoaaGreatDoor
def longF (f : Fnc) : Bool := decide (f.blocks.length = 0) || decide (200 < f.blocks.length) || decide (8 < f.params.length) || f.blocks.any fun b => decide (64 < b.ins.length)
def blkW (b : Block) : Bool := termB b.term && b.ins.all insB
def wholeF (f : Fnc) : Bool := parsB [] f.params && f.blocks.all blkW
def toL (t : Term) : List Int := if t.kind = 1 then [t.to0] else if t.kind = 2 then [t.to0, t.to1] else []
def tgtB (n : Nat) (b : Block) : Bool := (toL b.term).all fun x => decide (1 ≤ x) && decide (x < (n : Int))
theorem goes_of {t : Term} {n : Nat} (ht : termB t = true) (hn : n ≤ 64) (h : ∀ x ∈ toL t, 1 ≤ x ∧ x < (n : Int)) : goesB t = true := by
 unfold goesB
 unfold termB at ht
 unfold toL at h
 simp only [Bool.and_eq_true, decide_eq_true_eq]
 by_cases e1 : t.kind = 1
 ·rw [if_pos e1] at ht h
  simp only [Bool.and_eq_true, beq_iff_eq] at ht
  have := h t.to0 (by simp)
  omega
 rw [if_neg e1] at ht h
 by_cases e2 : t.kind = 2
 ·rw [if_pos e2] at h
  have h1 := h t.to0 (by simp)
  have h2 := h t.to1 (by simp)
  omega
 rw [if_neg e2] at ht h
 by_cases e3 : t.kind = 3
 ·rw [if_pos e3] at ht
  simp only [Bool.and_eq_true, beq_iff_eq] at ht
  omega
 rw [if_neg e3] at ht
 simp only [Bool.and_eq_true, beq_iff_eq] at ht
 omega
theorem not_right {f : Fnc} (h : fncB f = false) (hl : f.blocks.length ≤ 64) (h1 : longF f = false) (h2 : wholeF f = true) : f.blocks.all (tgtB f.blocks.length) = false := by
 cases hc : f.blocks.all (tgtB f.blocks.length) with
 | false => rfl
 | true =>
  unfold longF at h1
  simp only [Bool.or_eq_false_iff, decide_eq_false_iff_not, List.any_eq_false, decide_eq_true_eq] at h1
  obtain ⟨⟨⟨l0, l1⟩, l2⟩, l3⟩ := h1
  unfold wholeF at h2
  simp only [Bool.and_eq_true, List.all_eq_true] at h2
  obtain ⟨w1, w2⟩ := h2
  rw [List.all_eq_true] at hc
  have : fncB f = true := by
   unfold fncB
   rw [w1]
   simp only [Bool.true_and, Bool.and_eq_true, decide_eq_true_eq, List.all_eq_true]
   refine ⟨⟨⟨by omega, by omega⟩, by omega⟩, fun b hb => ?_⟩
   have hw := w2 b hb
   unfold blkW at hw
   simp only [Bool.and_eq_true] at hw
   have ht := hc b hb
   unfold tgtB at ht
   simp only [List.all_eq_true, Bool.and_eq_true, decide_eq_true_eq] at ht
   unfold blockB
   rw [hw.1, hw.2, goes_of hw.1 hl ht]
   have := l3 b hb
   simp only [Bool.and_true, decide_eq_true_eq]
   omega
  rw [this] at h; cases h
end Go.Proofs.YtljglhaeonbfoaaGreatDoor
