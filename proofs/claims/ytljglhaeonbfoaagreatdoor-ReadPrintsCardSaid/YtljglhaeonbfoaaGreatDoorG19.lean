/- law04: functions as plain data: what a text tells, by the program's way and the document's: they are one. law04: plain: what can be written; its text's words are read. law04: plain: what is shown of a right function is read as it. law04: plain: cursors that differ in places alone tell the same function; what is shown is read. law04: plain: what is read can be written. law04: plain: what is read can be written, and tells the same again. law04: plain: what is shown is read, of a text with more blanks, ends, remarks too. law04: plain: a text of one block with a line less, or two, tells none. law04: plain: a word more behind a function's text, and it is none: where the error is. law04: plain: what can be written, as a Bool. law04: plain: the program's way and the document's tell the same function of each text. -/
import Derived.Test.YtljglhaeonbfoaaGreatDoorG18
import Derived.Test.YtljglhaeonbfoaaGreatDoorG20
import Derived.Test.YtljglhaeonbfoaaGreatDoorG17
set_option linter.unusedSimpArgs false
set_option linter.unusedVariables false
namespace Go.Proofs.YtljglhaeonbfoaaGreatDoor
def vW (s : ByteArray) : Int := match numW 118 201 s with
 | some n => (n : Int)
 | none => 0
theorem vW_key {n : Nat} (h : n ≤ 200) : vW (keyB 118 n) = n := by unfold vW; rw [numW_key (by omega) (by omega)]
theorem vW_inv {s : ByteArray} (h : vW s ≠ 0) : ∃ n : Nat, 1 ≤ n ∧ n ≤ 200 ∧ s = keyB 118 n ∧ vW s = n := by
 unfold vW at h ⊢
 cases hn : numW 118 201 s with
 | none => rw [hn] at h; exact absurd rfl h
 | some n =>
  rw [hn] at h
  obtain ⟨e, hl⟩ := numW_inv hn
  exact ⟨n, by have h : (n : Int) ≠ 0 := h; omega, by omega, e, rfl⟩
theorem vW_in (s : ByteArray) : 0 ≤ vW s ∧ vW s ≤ 200 := by
 by_cases h : vW s = 0
 ·omega
 ·obtain ⟨n, h1, h2, _, h4⟩ := vW_inv h
  omega
def tFun : ByteArray := ⟨#[102, 117, 110]⟩
def tBlock : ByteArray := ⟨#[98, 108, 111, 99, 107]⟩
def tTrap : ByteArray := ⟨#[116, 114, 97, 112]⟩
def tReturn : ByteArray := ⟨#[114, 101, 116, 117, 114, 110]⟩
def tStore : ByteArray := ⟨#[115, 116, 111, 114, 101]⟩
def tCall : ByteArray := ⟨#[99, 97, 108, 108]⟩
def tConst : ByteArray := ⟨#[99, 111, 110, 115, 116]⟩
def tLoad : ByteArray := ⟨#[108, 111, 97, 100]⟩
def tLeft : ByteArray := ⟨#[226, 134, 144]⟩
def tArrow : ByteArray := ⟨#[226, 134, 146]⟩
def opsB : List ByteArray := [⟨#[97, 100, 100]⟩, ⟨#[115, 117, 98]⟩, ⟨#[109, 117, 108]⟩, ⟨#[100, 105, 118]⟩, ⟨#[97, 110, 100]⟩, ⟨#[111, 114]⟩, ⟨#[120, 111, 114]⟩, ⟨#[108, 101, 115, 115]⟩, ⟨#[115, 97, 109, 101]⟩]
def varC (s : Cur) : Int × Cur := if vW (peekC s) = 0 then (0, failC 7 s) else (vW (peekC s), (nameC s).2)
theorem left_var (s : Cur) : leftC (varC s).2 ≤ leftC s - 1 := by
 unfold varC
 split
 ·rw [left_fail (by decide)]; omega
 ·exact left_name s
def someG (q u : Bool) (x : List Int × Cur) : Option (List Int × Cur) :=
 if endsC x.2 = true then none
 else if x.1.length = 8 then some (if q = true then [] else x.1, failC 3 x.2)
 else if u = true ∧ x.1.contains (vW (peekC x.2)) = true then some (if q = true then x.1 ++ [0] else x.1, failC 7 x.2)
 else some (x.1 ++ [(varC x.2).1], (varC x.2).2)
theorem someG_dec {q u : Bool} (x y : List Int × Cur) (h : someG q u x = some y) : leftC y.2 < leftC x.2 := by
 unfold someG at h
 split at h
 ·cases h
 ·rename_i he
  have h1 := left_ends (by simpa using he)
  split at h
  ·injection h with h; subst h
   rw [left_fail (by decide)]; omega
  ·split at h
   ·injection h with h; subst h
    rw [left_fail (by decide)]; omega
   ·injection h with h; subst h
    have := left_var x.2
    simp only
    omega
def someC (q u : Bool) (x : List Int × Cur) : List Int × Cur := runC (someG q u) (fun x => leftC x.2) x
theorem someC_go {q u : Bool} {x y : List Int × Cur} (h : someG q u x = some y) : someC q u x = someC q u y := run_go someG_dec h
theorem someC_stop {q u : Bool} {x : List Int × Cur} (h : someG q u x = none) : someC q u x = x := run_stop h
def immC (s : Cur) : Int × Cur := numC (-1099511627776) 1099511627776 s
def insC (q : Bool) (o dst : Int) (s : Cur) : Ins × Cur :=
 if o = 1 then (⟨o, dst, 0, 0, (immC s).1, 0, [], 0⟩, (immC s).2)
 else if o = 13 then
  let n := numC 0 99 s
  let l := someC q false ([], n.2)
  (⟨o, dst, 0, 0, 0, n.1, l.1, 0⟩, l.2)
 else
  let a := varC s
  let m := if o = 11 then immC a.2 else (0, a.2)
  let b := if o ≤ 10 then varC m.2 else (0, m.2)
  (⟨o, dst, a.1, b.1, m.1, 0, [], 0⟩, b.2)
def opC (s : Cur) : Int × Cur :=
 let r := kindC opsB 2 s
 if r.1 ≠ 0 then ((r.1 : Int), r.2)
 else if isC (.nm tConst) s = true then (1, popC s)
 else if isC (.nm tLoad) s = true then (11, popC s)
 else if isC (.nm tCall) s = true then (13, popC s)
 else (14, s)
inductive Ln where
 | ins (i : Ins)
 | term (t : Term)
def insL (x : Ins × Cur) : Ln × Cur := (.ins x.1, x.2)
def termL (t : Term) (s : Cur) : Ln × Cur := (.term t, s)
def oneC (q : Bool) (s : Cur) : Ln × Cur :=
 if isC (.nm tTrap) s = true then termL ⟨4, 0, 0, 0⟩ (popC s)
 else if isC (.nm tReturn) s = true then
  let s1 := popC s
  let v := if endsC s1 = true then (0, s1) else varC s1
  termL ⟨3, v.1, 0, 0⟩ v.2
 else if isC (.mk tArrow) s = true then
  let n := numC 0 63 (popC s)
  termL ⟨1, 0, n.1, 0⟩ n.2
 else if isC (.nm tStore) s = true then
  let a := varC (popC s)
  let m := immC a.2
  let b := varC m.2
  (.ins ⟨12, 0, a.1, b.1, m.1, 0, [], 0⟩, b.2)
 else if isC (.nm tCall) s = true then insL (insC q 13 0 (popC s))
 else
  let v := varC s
  if isC (.mk tArrow) v.2 = true then
   let n := numC 0 63 (popC v.2)
   let m := numC 0 63 n.2
   termL ⟨2, v.1, n.1, m.1⟩ m.2
  else
   let o := opC (markC [tLeft] v.2)
   insL (insC q o.1 v.1 o.2)
def aliveC (s : Cur) : Nat := leftC s + (if s.e = 0 then 1 else 0)
theorem alive_fail {x : Int} (hx : x ≠ 0) (s : Cur) : aliveC (failC x s) = 0 := by
 unfold aliveC
 rw [left_fail hx, failC_e]
 split
 ·split
  ·rename_i h1 h2
   rcases h1 with h1 | h1
   ·exact absurd h2 h1
   ·exact absurd h1 hx
  ·rfl
 ·first | rfl | rw [if_neg hx]
theorem left_alive (s : Cur) : leftC s ≤ aliveC s := Nat.le_add_right _ _
theorem alive_pop (s : Cur) : aliveC (popC s) ≤ aliveC s := by
 have h := left_pop s
 unfold aliveC
 rw [h]
 show leftC s - 1 + (if s.e = 0 then 1 else 0) ≤ _
 omega
theorem alive_pop1 {s : Cur} (h : 1 ≤ leftC s) : aliveC (popC s) < aliveC s := by
 have h1 := left_pop s
 unfold aliveC
 rw [h1]
 show leftC s - 1 + (if s.e = 0 then 1 else 0) < leftC s + (if s.e = 0 then 1 else 0)
 omega
theorem alive_e {s : Cur} (h : s.e = 0) : 1 ≤ aliveC s := by unfold aliveC; rw [if_pos h]; omega
theorem alive_name (s : Cur) : aliveC (nameC s).2 ≤ aliveC s := by
 unfold nameC
 split
 ·split
  ·exact alive_pop s
  ·rw [alive_fail (by decide)]; omega
 ·rw [alive_fail (by decide)]; omega
theorem alive_num (lo hi : Int) (s : Cur) : aliveC (numC lo hi s).2 ≤ aliveC s := by
 unfold numC
 split
 ·split
  ·split
   ·rw [alive_fail (by decide)]; omega
   ·exact alive_pop s
  ·rw [alive_fail (by decide)]; omega
 ·rw [alive_fail (by decide)]; omega
theorem alive_mark : ∀ (l : List ByteArray) (s : Cur), aliveC (markC l s) ≤ aliveC s
 | [], _ => Nat.le_refl _
 | t :: l, s => by
  unfold markC
  refine Nat.le_trans (alive_mark l _) ?_
  split
  ·exact alive_pop s
  ·rw [alive_fail (by decide)]; omega
theorem alive_end (s : Cur) : aliveC (endC s) ≤ aliveC s := by
 unfold endC
 split
 ·split
  ·exact alive_pop s
  ·rw [alive_fail (by decide)]; omega
 ·exact Nat.le_refl _
theorem alive_kind : ∀ (l : List ByteArray) (k : Nat) (s : Cur), aliveC (kindC l k s).2 ≤ aliveC s
 | [], _, _ => Nat.le_refl _
 | t :: l, k, s => by
  unfold kindC
  split
  ·exact alive_pop s
  ·exact alive_kind l (k + 1) s
theorem alive_var (s : Cur) : aliveC (varC s).2 ≤ aliveC s := by
 unfold varC
 split
 ·rw [alive_fail (by decide)]; omega
 ·exact alive_name s
theorem alive_var1 {s : Cur} (h : s.e = 0) : aliveC (varC s).2 < aliveC s := by
 have h1 := alive_e h
 unfold varC
 split
 ·rw [alive_fail (by decide)]; omega
 ·rename_i hv
  have hp : 1 ≤ leftC s := by
   unfold leftC
   rw [if_pos h]
   cases hw : s.ws with
   | nil =>
    exfalso; apply hv
    unfold peekC headC
    rw [if_pos h, hw]
    rfl
   | cons x l => simp
  unfold nameC
  split
  ·split
   ·exact alive_pop1 hp
   ·rw [alive_fail (by decide)]; omega
  ·rw [alive_fail (by decide)]; omega
theorem alive_some {q u : Bool} : ∀ (f : Nat) (x : List Int × Cur), aliveC (loopC (someG q u) f x).2 ≤ aliveC x.2
 | 0, _ => Nat.le_refl _
 | f + 1, x => by
  cases h : someG q u x with
  | none => rw [loop_none h]; exact Nat.le_refl _
  | some y =>
   rw [loop_some h]
   refine Nat.le_trans (alive_some f y) ?_
   unfold someG at h
   split at h
   ·cases h
   ·split at h
    ·injection h with h; subst h; rw [alive_fail (by decide)]; omega
    ·split at h
     ·injection h with h; subst h; rw [alive_fail (by decide)]; omega
     ·injection h with h; subst h; exact alive_var x.2
theorem alive_ins (q : Bool) (o dst : Int) (s : Cur) : aliveC (insC q o dst s).2 ≤ aliveC s := by
 unfold insC
 split
 ·exact alive_num _ _ s
 ·split
  ·exact Nat.le_trans (alive_some _ _) (alive_num _ _ s)
  ·simp only
   have h1 := alive_var s
   have h2 : aliveC (if o = 11 then immC (varC s).2 else (0, (varC s).2)).2 ≤ aliveC (varC s).2 := by
    split
    ·exact alive_num _ _ _
    ·exact Nat.le_refl _
   have h3 : ∀ t : Cur, aliveC (if o ≤ 10 then varC t else (0, t)).2 ≤ aliveC t := fun t => by
    split
    ·exact alive_var t
    ·exact Nat.le_refl _
   exact Nat.le_trans (h3 _) (Nat.le_trans h2 h1)
theorem alive_op (s : Cur) : aliveC (opC s).2 ≤ aliveC s := by
 unfold opC
 simp only
 split
 ·exact alive_kind _ _ s
 ·split
  ·exact alive_pop s
  ·split
   ·exact alive_pop s
   ·split
    ·exact alive_pop s
    ·exact Nat.le_refl _
theorem alive_one {q : Bool} {s : Cur} (h : s.e = 0) : aliveC (oneC q s).2 < aliveC s := by
 have hp : ∀ {v : Has}, isC v s = true → aliveC (popC s) < aliveC s := fun hi => alive_pop1 (left_is hi)
 unfold oneC
 split
 ·rename_i hi; exact hp hi
 split
 ·rename_i _ hi
  refine Nat.lt_of_le_of_lt ?_ (hp hi)
  simp only [termL]
  split
  ·exact Nat.le_refl _
  ·exact alive_var _
 split
 ·rename_i _ _ hi
  exact Nat.lt_of_le_of_lt (alive_num _ _ _) (hp hi)
 split
 ·rename_i _ _ _ hi
  exact Nat.lt_of_le_of_lt (Nat.le_trans (alive_var _) (Nat.le_trans (alive_num _ _ _) (alive_var _))) (hp hi)
 split
 ·rename_i _ _ _ _ hi
  exact Nat.lt_of_le_of_lt (alive_ins _ _ _ _) (hp hi)
 ·have hv := alive_var1 h
  simp only
  split
  ·exact Nat.lt_of_le_of_lt (Nat.le_trans (alive_num _ _ _) (Nat.le_trans (alive_num _ _ _) (alive_pop _))) hv
  ·exact Nat.lt_of_le_of_lt (Nat.le_trans (alive_ins _ _ _ _) (Nat.le_trans (alive_op _) (alive_mark _ _))) hv
def blkG (q : Bool) (x : (Block × Bool) × Cur) : Option ((Block × Bool) × Cur) :=
 if x.1.2 = true ∨ x.2.e ≠ 0 then none
 else
  match (oneC q x.2).1 with
  | .term t => some ((⟨x.1.1.ins, t⟩, true), endC (oneC q x.2).2)
  | .ins i => some ((⟨x.1.1.ins ++ [i], x.1.1.term⟩, false), endC (if x.1.1.ins.length = 64 then failC 3 (oneC q x.2).2 else (oneC q x.2).2))
theorem blkG_dec {q : Bool} (x y : (Block × Bool) × Cur) (h : blkG q x = some y) : aliveC y.2 < aliveC x.2 := by
 unfold blkG at h
 split at h
 ·cases h
 ·rename_i hn
  have he : x.2.e = 0 := by
   by_cases h : x.2.e = 0
   ·exact h
   ·exact absurd (.inr h) hn
  have h1 := alive_one (q := q) he
  split at h
  ·injection h with h; subst h
   exact Nat.lt_of_le_of_lt (alive_end _) h1
  ·injection h with h; subst h
   refine Nat.lt_of_le_of_lt (alive_end _) ?_
   split
   ·rw [alive_fail (by decide)]; omega
   ·exact h1
def blkC (q : Bool) (x : (Block × Bool) × Cur) : (Block × Bool) × Cur := runC (blkG q) (fun x => aliveC x.2) x
theorem blkC_go {q : Bool} {x y : (Block × Bool) × Cur} (h : blkG q x = some y) : blkC q x = blkC q y := run_go blkG_dec h
theorem blkC_stop {q : Bool} {x : (Block × Bool) × Cur} (h : blkG q x = none) : blkC q x = x := run_stop h
def keyC (t : ByteArray) (s : Cur) : Cur := if isC (.nm t) s = true then popC s else failC 7 s
def headB (n : Nat) (s : Cur) : Cur := endC (numC n n (keyC tBlock (if n = 64 then failC 3 s else s))).2
def zeroTerm : Term := ⟨0, 0, 0, 0⟩
def wholeC (q : Bool) (n : Nat) (s : Cur) : Block × Cur :=
 let r := blkC q ((⟨[], zeroTerm⟩, false), headB n s)
 (r.1.1, r.2)
theorem alive_blk {q : Bool} : ∀ (f : Nat) (x : (Block × Bool) × Cur), aliveC (loopC (blkG q) f x).2 ≤ aliveC x.2
 | 0, _ => Nat.le_refl _
 | f + 1, x => by
  cases h : blkG q x with
  | none => rw [loop_none h]; exact Nat.le_refl _
  | some y => rw [loop_some h]; exact Nat.le_trans (alive_blk f y) (Nat.le_of_lt (blkG_dec x y h))
theorem alive_key {t : ByteArray} {s : Cur} (h : moreC s = true) : aliveC (keyC t s) < aliveC s := by
 have h0 : s.e = 0 ∧ s.ws ≠ [] := by
  unfold moreC at h
  simp only [Bool.and_eq_true, beq_iff_eq, Bool.not_eq_true', List.isEmpty_eq_false_iff] at h
  exact h
 unfold keyC
 split
 ·rename_i hi; exact alive_pop1 (left_is hi)
 ·rw [alive_fail (by decide)]; have := alive_e h0.1; omega
theorem alive_whole {q : Bool} {n : Nat} {s : Cur} (h : moreC s = true) : aliveC (wholeC q n s).2 < aliveC s := by
 unfold wholeC
 refine Nat.lt_of_le_of_lt (alive_blk _ _) ?_
 unfold headB
 refine Nat.lt_of_le_of_lt (Nat.le_trans (alive_end _) (alive_num _ _ _)) ?_
 split
 ·have hz : keyC tBlock (failC 3 s) = failC 3 s := by
   unfold keyC
   have hf : ¬ (failC 3 s).e = 0 := by
    rw [failC_e]
    split
    ·rename_i h1
     rcases h1 with h1 | h1
     ·exact h1
     ·exact absurd h1 (by decide)
    ·decide
   rw [if_neg (by unfold isC headC; rw [if_neg hf]; decide)]
   unfold failC
   rw [if_pos (.inl hf)]
  rw [hz, alive_fail (by decide)]
  have := left_alive s
  unfold moreC at h
  simp only [Bool.and_eq_true, beq_iff_eq] at h
  have := alive_e h.1
  omega
 ·exact alive_key h
def blocksG (q : Bool) (x : List Block × Cur) : Option (List Block × Cur) :=
 if x.1 = [] ∨ moreC x.2 = true then some (x.1 ++ [(wholeC q x.1.length x.2).1], (wholeC q x.1.length x.2).2) else none
def fnM (x : List Block × Cur) : Nat := aliveC x.2 + (if x.1 = [] then 1 else 0)
theorem alive_whole0 (q : Bool) (n : Nat) (s : Cur) : aliveC (wholeC q n s).2 ≤ aliveC s := by
 unfold wholeC
 refine Nat.le_trans (alive_blk _ _) ?_
 unfold headB
 refine Nat.le_trans (alive_end _) (Nat.le_trans (alive_num _ _ _) ?_)
 have h1 : ∀ t : Cur, aliveC (keyC tBlock t) ≤ aliveC t := fun t => by
  unfold keyC
  split
  ·exact alive_pop t
  ·rw [alive_fail (by decide)]; omega
 refine Nat.le_trans (h1 _) ?_
 split
 ·rw [alive_fail (by decide)]; omega
 ·exact Nat.le_refl _
theorem blocksG_dec {q : Bool} (x y : List Block × Cur) (h : blocksG q x = some y) : fnM y < fnM x := by
 unfold blocksG at h
 split at h
 ·rename_i hc
  injection h with h; subst h
  unfold fnM
  have hne : ¬ (x.1 ++ [(wholeC q x.1.length x.2).1] = []) := by simp
  simp only
  rw [if_neg hne]
  by_cases h0 : x.1 = []
  ·rw [if_pos h0]; have := alive_whole0 q x.1.length x.2; omega
  ·rw [if_neg h0]
   rcases hc with hc | hc
   ·exact absurd hc h0
   ·have := alive_whole (q := q) (n := x.1.length) hc; omega
 ·cases h
def fnBlocksC (q : Bool) (x : List Block × Cur) : List Block × Cur := runC (blocksG q) fnM x
theorem fnBlocksC_go {q : Bool} {x y : List Block × Cur} (h : blocksG q x = some y) : fnBlocksC q x = fnBlocksC q y := run_go blocksG_dec h
theorem fnBlocksC_stop {q : Bool} {x : List Block × Cur} (h : blocksG q x = none) : fnBlocksC q x = x := run_stop h
def fnC (q : Bool) (s : Cur) : Fnc × Cur :=
 let p := someC q true ([], keyC tFun s)
 let b := fnBlocksC q ([], endC p.2)
 (⟨p.1, b.1⟩, b.2)
def parse04 (q : Bool) (s : ByteArray) : Fnc × Int × Int × Int :=
 if 262144 < s.size then (⟨[], []⟩, 0, 0, 3)
 else if (errC (fnC q (overT s)).2).2.2 ≠ 0 then (⟨[], []⟩, errC (fnC q (overT s)).2) else ((fnC q (overT s)).1, 0, 0, 0)
end Go.Proofs.YtljglhaeonbfoaaGreatDoor
namespace Go.Proofs.YtljglhaeonbfoaaGreatDoor
def vOk (n : Int) : Bool := decide (1 ≤ n) && decide (n ≤ 200)
theorem vOk_in {n : Int} (h : vOk n = true) : 1 ≤ n ∧ n ≤ 200 := by
 unfold vOk at h
 simpa using h
def immOk (n : Int) : Bool := decide (-1099511627776 ≤ n) && decide (n ≤ 1099511627776)
theorem immOk_in {n : Int} (h : immOk n = true) : -1099511627776 ≤ n ∧ n ≤ 1099511627776 := by
 unfold immOk at h
 simpa using h
structure InsR (i : Ins) : Prop where
 op : 1 ≤ i.op ∧ i.op ≤ 14
 many : i.many = 0
 call : i.op = 13 → i.a = 0 ∧ i.b = 0 ∧ i.imm = 0 ∧ 0 ≤ i.callee ∧ i.callee ≤ 99 ∧ (i.dst ≠ 0 → vOk i.dst = true) ∧ i.args.length ≤ 8 ∧ ∀ x ∈ i.args, vOk x = true
 no : i.op ≠ 13 → i.callee = 0 ∧ i.args = []
 dst : i.op ≠ 13 → i.op ≠ 12 → vOk i.dst = true
 dst0 : i.op = 12 → i.dst = 0
 a : i.op ≠ 13 → i.op ≠ 1 → vOk i.a = true
 a0 : i.op = 1 → i.a = 0
 b : 2 ≤ i.op → i.op ≤ 10 ∨ i.op = 12 → vOk i.b = true
 b0 : i.op = 1 ∨ i.op = 11 ∨ i.op = 14 → i.b = 0
 imm : i.op = 1 ∨ i.op = 11 ∨ i.op = 12 → immOk i.imm = true
 imm0 : 2 ≤ i.op → i.op ≤ 10 ∨ i.op = 14 → i.imm = 0
structure TermR (t : Term) : Prop where
 k : 1 ≤ t.kind ∧ t.kind ≤ 4
 jump : t.kind = 1 → t.a = 0 ∧ t.to1 = 0
 branch : t.kind = 2 → vOk t.a = true
 ret : t.kind = 3 → (t.a ≠ 0 → vOk t.a = true) ∧ t.to0 = 0 ∧ t.to1 = 0
 trap : t.kind = 4 → t.a = 0 ∧ t.to0 = 0 ∧ t.to1 = 0
 to0 : 0 ≤ t.to0 ∧ t.to0 < 64
 to1 : 0 ≤ t.to1 ∧ t.to1 < 64
structure BlockR (b : Block) : Prop where
 n : b.ins.length ≤ 64
 i : ∀ i ∈ b.ins, InsR i
 t : TermR b.term
structure FncR (f : Fnc) : Prop where
 p : ∀ x ∈ f.params, vOk x = true
 pn : f.params.length ≤ 8
 pu : f.params.Nodup
 b : ∀ x ∈ f.blocks, BlockR x
 b1 : 1 ≤ f.blocks.length
 b64 : f.blocks.length ≤ 64
def vrW (v : Int) : Word := nmW (keyB 118 v.toNat)
def leftWs (d : Int) : List Word := if d ≠ 0 then [vrW d, mkW tLeft] else []
def opT (o : Int) : ByteArray := opsB.getD (o.toNat - 2) ByteArray.empty
def insWs (i : Ins) : List Word :=
 if i.op = 1 then leftWs i.dst ++ [nmW tConst, nuW i.imm]
 else if i.op = 11 then leftWs i.dst ++ [nmW tLoad, vrW i.a, nuW i.imm]
 else if i.op = 12 then [nmW tStore, vrW i.a, nuW i.imm, vrW i.b]
 else if i.op = 13 then leftWs i.dst ++ (nmW tCall :: nuW i.callee :: i.args.map vrW)
 else if i.op = 14 then leftWs i.dst ++ [vrW i.a]
 else leftWs i.dst ++ [nmW (opT i.op), vrW i.a, vrW i.b]
def termWs (t : Term) : List Word :=
 if t.kind = 1 then [mkW tArrow, nuW t.to0]
 else if t.kind = 2 then [vrW t.a, mkW tArrow, nuW t.to0, nuW t.to1]
 else if t.kind = 3 then nmW tReturn :: (if t.a = 0 then [] else [vrW t.a])
 else [nmW tTrap]
def blockWs (n : Nat) (b : Block) : List (List Word) := [nmW tBlock, nuW n] :: (b.ins.map insWs ++ [termWs b.term])
def blocksWs : Nat → List Block → List (List Word)
 | _, [] => []
 | n, b :: l => blockWs n b ++ blocksWs (n + 1) l
def fnWs (f : Fnc) : List (List Word) := (nmW tFun :: f.params.map vrW) :: blocksWs 0 f.blocks
def show04 (f : Fnc) : ByteArray := linesX ByteArray.empty (fnWs f)
theorem key_list (c : UInt8) (n : Nat) : (keyB c n).toList = c :: Lib.decDigits n := by rw [ByteArray.toList_eq]; unfold keyB; simp
end Go.Proofs.YtljglhaeonbfoaaGreatDoor
namespace Go.Proofs.YtljglhaeonbfoaaGreatDoor
end Go.Proofs.YtljglhaeonbfoaaGreatDoor
namespace Go.Proofs.YtljglhaeonbfoaaGreatDoor
section
variable {a b : Cur}
end
def kwsB : List ByteArray := [tFun, tBlock, tTrap, tReturn, tStore, tCall, tConst, tLoad] ++ opsB
structure PW (P : Word → Prop) : Prop where
 vr : ∀ {v : Int}, vOk v = true → P (vrW v)
 kw : ∀ {t : ByteArray}, t ∈ kwsB → P (nmW t)
 mkL : P (mkW tLeft)
 mkR : P (mkW tArrow)
 num : ∀ {n : Int}, -1099511627776 ≤ n → n ≤ 1099511627776 → P (nuW n)
theorem opT_mem {o : Int} (h1 : 2 ≤ o) (h2 : o ≤ 10) : opT o ∈ kwsB := by
 obtain ⟨k, rfl⟩ : ∃ k : Nat, o = (k : Int) := ⟨o.toNat, by omega⟩
 refine List.mem_append_right _ ?_
 rcases (by omega : k = 2 ∨ k = 3 ∨ k = 4 ∨ k = 5 ∨ k = 6 ∨ k = 7 ∨ k = 8 ∨ k = 9 ∨ k = 10) with rfl | rfl | rfl | rfl | rfl | rfl | rfl | rfl | rfl
 all_goals simp [opT, opsB]
theorem all2 {P : Word → Prop} {x : Word} {l : List Word} (h : P x) (g : ∀ p ∈ l, P p) : ∀ p ∈ x :: l, P p := by
 intro p hp
 rcases List.mem_cons.1 hp with rfl | hp
 ·exact h
 ·exact g p hp
theorem all0 {P : Word → Prop} : ∀ p ∈ ([] : List Word), P p := fun _ h => by cases h
theorem allA {P : Word → Prop} {l m : List Word} (h : ∀ p ∈ l, P p) (g : ∀ p ∈ m, P p) : ∀ p ∈ l ++ m, P p := by
 intro p hp
 rcases List.mem_append.1 hp with hp | hp
 ·exact h p hp
 ·exact g p hp
section
variable {P : Word → Prop} (H : PW P)
include H
theorem all_num {n : Int} (h1 : 0 ≤ n) (h2 : n ≤ 99) : P (nuW n) := H.num (by omega) (by omega)
theorem all_vars {l : List Int} (h : ∀ x ∈ l, vOk x = true) : ∀ p ∈ l.map vrW, P p := by
 intro p hp
 obtain ⟨x, hx, rfl⟩ := List.mem_map.1 hp
 exact H.vr (h x hx)
theorem all_left {d : Int} (h : d ≠ 0 → vOk d = true) : ∀ p ∈ leftWs d, P p := by
 unfold leftWs
 split
 ·rename_i hd; exact all2 (H.vr (h hd)) (all2 H.mkL all0)
 ·exact all0
theorem all_ins {i : Ins} (h : InsR i) : insWs i ≠ [] ∧ ∀ p ∈ insWs i, P p := by
 obtain ⟨⟨o1, o2⟩, hm, hcall, hno, hdst, hdst0, ha, ha0, hb, hb0, himm, himm0⟩ := h
 have himm' : immOk i.imm = true → P (nuW i.imm) := fun h => H.num (immOk_in h).1 (immOk_in h).2
 unfold insWs
 split
 ·rename_i e
  exact ⟨by simp, allA (all_left H fun _ => hdst (by omega) (by omega)) (all2 (H.kw (by simp [kwsB])) (all2 (himm' (himm (.inl e))) all0))⟩
 split
 ·rename_i _ e
  exact ⟨by simp, allA (all_left H fun _ => hdst (by omega) (by omega)) (all2 (H.kw (by simp [kwsB])) (all2 (H.vr (ha (by omega) (by omega))) (all2 (himm' (himm (.inr (.inl e)))) all0)))⟩
 split
 ·rename_i _ _ e
  exact ⟨by simp, all2 (H.kw (by simp [kwsB])) (all2 (H.vr (ha (by omega) (by omega))) (all2 (himm' (himm (.inr (.inr e)))) (all2 (H.vr (hb (by omega) (.inr e))) all0)))⟩
 split
 ·rename_i _ _ _ e
  obtain ⟨_, _, _, c1, c2, hd, l1, l2⟩ := hcall e
  exact ⟨by simp, allA (all_left H hd) (all2 (H.kw (by simp [kwsB])) (all2 (all_num H c1 c2) (all_vars H l2)))⟩
 split
 ·rename_i _ _ _ _ e
  exact ⟨by simp, allA (all_left H fun _ => hdst (by omega) (by omega)) (all2 (H.vr (ha (by omega) (by omega))) all0)⟩
 ·rename_i e1 e2 e3 e4 e5
  exact ⟨by simp, allA (all_left H fun _ => hdst (by omega) (by omega)) (all2 (H.kw (opT_mem (by omega) (by omega))) (all2 (H.vr (ha (by omega) (by omega))) (all2 (H.vr (hb (by omega) (.inl (by omega)))) all0)))⟩
theorem all_term {t : Term} (h : TermR t) : termWs t ≠ [] ∧ ∀ p ∈ termWs t, P p := by
 obtain ⟨⟨k1, k2⟩, hj, hb, hr, ht, ⟨x1, x2⟩, ⟨y1, y2⟩⟩ := h
 unfold termWs
 split
 ·exact ⟨by simp, all2 H.mkR (all2 (all_num H x1 (by omega)) all0)⟩
 split
 ·rename_i _ e
  exact ⟨by simp, all2 (H.vr (hb e)) (all2 H.mkR (all2 (all_num H x1 (by omega)) (all2 (all_num H y1 (by omega)) all0)))⟩
 split
 ·rename_i _ _ e
  refine ⟨by simp, all2 (H.kw (by simp [kwsB])) ?_⟩
  split
  ·exact all0
  ·rename_i ha; exact all2 (H.vr ((hr e).1 ha)) all0
 ·exact ⟨by simp, all2 (H.kw (by simp [kwsB])) all0⟩
theorem all_block {b : Block} (h : BlockR b) {n : Nat} (hn : n < 64) : ∀ ps ∈ blockWs n b, ps ≠ [] ∧ ∀ p ∈ ps, P p := by
 intro ps hp
 unfold blockWs at hp
 rcases List.mem_cons.1 hp with rfl | hp
 ·exact ⟨by simp, all2 (H.kw (by simp [kwsB])) (all2 (all_num H (by omega) (by omega)) all0)⟩
 rcases List.mem_append.1 hp with hp | hp
 ·obtain ⟨i, hi, rfl⟩ := List.mem_map.1 hp
  exact all_ins H (h.i i hi)
 ·obtain rfl := List.mem_singleton.1 hp
  exact all_term H h.t
theorem all_blocks : ∀ (l : List Block) (n : Nat), (∀ b ∈ l, BlockR b) → n + l.length ≤ 64 → ∀ ps ∈ blocksWs n l, ps ≠ [] ∧ ∀ p ∈ ps, P p
 | [], _, _, _ => fun _ h => by cases h
 | b :: l, n, h, hl => by
  simp only [List.length_cons] at hl
  intro ps hp
  rcases List.mem_append.1 (show ps ∈ blockWs n b ++ blocksWs (n + 1) l from hp) with hp | hp
  ·exact all_block H (h b (by simp)) (by omega) ps hp
  ·exact all_blocks l (n + 1) (fun x hx => h x (List.mem_cons_of_mem _ hx)) (by omega) ps hp
theorem all_fn {f : Fnc} (h : FncR f) : ∀ ps ∈ fnWs f, ps ≠ [] ∧ ∀ p ∈ ps, P p := by
 intro ps hp
 rcases List.mem_cons.1 (show ps ∈ (nmW tFun :: f.params.map vrW) :: blocksWs 0 f.blocks from hp) with rfl | hp
 ·exact ⟨by simp, all2 (H.kw (by simp [kwsB])) (all_vars H h.p)⟩
 ·exact all_blocks H f.blocks 0 h.b (by have := h.b64; omega) ps hp
end
end Go.Proofs.YtljglhaeonbfoaaGreatDoor
namespace Go.Proofs.YtljglhaeonbfoaaGreatDoor
end Go.Proofs.YtljglhaeonbfoaaGreatDoor
namespace Go.Proofs.YtljglhaeonbfoaaGreatDoor
def wordsN : List (List Word) → Nat
 | [] => 0
 | p :: l => p.length + wordsN l
theorem wordsN_app : ∀ a b : List (List Word), wordsN (a ++ b) = wordsN a + wordsN b
 | [], b => by simp [wordsN]
 | p :: a, b => by show _ + wordsN (a ++ b) = _; rw [wordsN_app a b]; simp only [wordsN]; omega
theorem tailX_sz : ∀ l : List ByteArray, (∀ x ∈ l, x.size ≤ 21) → (tailX l).size ≤ 22 * l.length
 | [], _ => by simp [tailX]
 | y :: l, h => by
  have ih := tailX_sz l fun x hx => h x (List.mem_cons_of_mem _ hx)
  have h1 := h y (by simp)
  have h2 : (⟨#[32]⟩ : ByteArray).size = 1 := rfl
  show ((⟨#[32]⟩ ++ y) ++ tailX l).size ≤ _
  rw [ByteArray.size_append, ByteArray.size_append, h2, List.length_cons]
  omega
theorem lineX_sz {ps : List Word} (hne : ps ≠ []) (h : ∀ p ∈ ps, p.text.size ≤ 21) : (lineX ps).size ≤ 22 * ps.length := by
 cases ps with
 | nil => exact absurd rfl hne
 | cons p ps =>
  have h1 := h p (by simp)
  have h2 := tailX_sz (ps.map (·.text)) fun x hx => by
   obtain ⟨q, hq, rfl⟩ := List.mem_map.1 hx
   exact h q (List.mem_cons_of_mem _ hq)
  have h3 : (⟨#[10]⟩ : ByteArray).size = 1 := rfl
  show ((p.text ++ tailX (ps.map (·.text))) ++ ⟨#[10]⟩).size ≤ _
  rw [ByteArray.size_append, ByteArray.size_append, h3, List.length_cons]
  rw [List.length_map] at h2
  omega
theorem linesX_sz : ∀ (L : List (List Word)) (acc : ByteArray), (∀ ps ∈ L, ps ≠ [] ∧ ∀ p ∈ ps, p.text.size ≤ 21) → (linesX acc L).size ≤ acc.size + 22 * wordsN L
 | [], acc, _ => by simp [linesX, wordsN]
 | ps :: L, acc, h => by
  have h1 := lineX_sz (h ps (by simp)).1 (h ps (by simp)).2
  have h2 := linesX_sz L (acc ++ lineX ps) fun q hq => h q (List.mem_cons_of_mem _ hq)
  rw [ByteArray.size_append] at h2
  show (linesX (acc ++ lineX ps) L).size ≤ _
  simp only [wordsN]
  omega
theorem key_sz04 {n : Nat} (h : n < 1000) : (keyB 118 n).size ≤ 21 := by
 have := dec_len4 h
 unfold keyB
 show ((118 : UInt8) :: Lib.decDigits n).toArray.size ≤ 21
 simp
 omega
theorem pw_sz : PW fun p => p.text.size ≤ 21 where
 vr h := by
  obtain ⟨h1, h2⟩ := vOk_in h
  exact key_sz04 (by omega)
 kw h := by
  simp only [kwsB, opsB, List.cons_append, List.nil_append, List.mem_cons, List.not_mem_nil, or_false] at h
  rcases h with rfl | rfl | rfl | rfl | rfl | rfl | rfl | rfl | rfl | rfl | rfl | rfl | rfl | rfl | rfl | rfl | rfl <;> decide
 mkL := by decide
 mkR := by decide
 num h1 h2 := itoa_sz28 _ ⟨by omega, by omega⟩
theorem show_sz04 {f : Fnc} (h : FncR f) : (show04 f).size ≤ 22 * wordsN (fnWs f) := by
 have h1 := linesX_sz (fnWs f) ByteArray.empty (all_fn pw_sz h)
 have h2 : (ByteArray.empty).size = 0 := rfl
 rw [h2] at h1
 unfold show04
 omega
end Go.Proofs.YtljglhaeonbfoaaGreatDoor
namespace Go.Proofs.YtljglhaeonbfoaaGreatDoor
def argsS : List Ins → Nat
 | [] => 0
 | i :: l => i.args.length + argsS l
def blksS : List Block → Nat
 | [] => 0
 | b :: l => 1 + b.ins.length + argsS b.ins + blksS l
def fnS (f : Fnc) : Nat := f.params.length + blksS f.blocks
theorem argsOf_sum (most : Int) : ∀ (l : List Ins) (n : Int), argsOf most n l ≤ most → argsOf most n l = n + (argsS l : Nat)
 | [], n, _ => by simp [argsOf, argsS]
 | i :: l, n, h => by
  unfold argsOf at h ⊢
  split at h
  ·rename_i hn
   rw [if_pos hn, argsOf_sum most l _ h]
   simp only [argsS]
   omega
  ·rename_i hn; exact absurd h hn
theorem blocksOf_ge (most : Int) : ∀ (l : List Block) (n : Int), most < n → blocksOf most n l = n
 | [], n, _ => rfl
 | b :: l, n, h => by unfold blocksOf; rw [if_neg (by omega)]
theorem blocksOf_sum (most : Int) : ∀ (l : List Block) (n : Int), blocksOf most n l ≤ most → blocksOf most n l = n + (blksS l : Nat)
 | [], n, _ => by simp [blocksOf, blksS]
 | b :: l, n, h => by
  have e : blocksOf most n (b :: l) = if n ≤ most then blocksOf most (argsOf most (n + 1 + b.ins.length) b.ins) l else n := rfl
  rw [e] at h ⊢
  split at h
  ·rename_i hn
   rw [if_pos hn]
   by_cases ha : argsOf most (n + 1 + b.ins.length) b.ins ≤ most
   ·rw [blocksOf_sum most l _ h, argsOf_sum most _ _ ha]
    simp only [blksS]
    omega
   ·rw [blocksOf_ge most l _ (by omega)] at h
    exact absurd h ha
  ·rename_i hn; exact absurd h hn
end Go.Proofs.YtljglhaeonbfoaaGreatDoor
namespace Go.Proofs.YtljglhaeonbfoaaGreatDoor
end Go.Proofs.YtljglhaeonbfoaaGreatDoor
namespace Go.Proofs.YtljglhaeonbfoaaGreatDoor
section
variable {s : Cur}
end
end Go.Proofs.YtljglhaeonbfoaaGreatDoor
namespace Go.Proofs.YtljglhaeonbfoaaGreatDoor
def hasD04 (o : Int) : Bool := o == 1 || (decide (2 ≤ o) && decide (o ≤ 10)) || o == 11 || o == 14
def hasA04 (o : Int) : Bool := (decide (2 ≤ o) && decide (o ≤ 10)) || o == 11 || o == 12 || o == 14
def hasB04 (o : Int) : Bool := (decide (2 ≤ o) && decide (o ≤ 10)) || o == 12
def hasI04 (o : Int) : Bool := o == 1 || o == 11 || o == 12
def fits04 (has : Bool) (n : Int) : Bool := if has = true then vOk n else n == 0
def insB (i : Ins) : Bool := (decide (1 ≤ i.op) && decide (i.op ≤ 14)) && i.many == 0 &&
 if i.op = 13 then (i.a == 0 && i.b == 0 && i.imm == 0) && (decide (0 ≤ i.callee) && decide (i.callee ≤ 99)) && fits04 (i.dst != 0) i.dst && decide (i.args.length ≤ 8) && i.args.all vOk
 else (hasI04 i.op || i.imm == 0) && immOk i.imm && i.callee == 0 && decide (i.args = []) && fits04 (hasD04 i.op) i.dst && fits04 (hasA04 i.op) i.a && fits04 (hasB04 i.op) i.b
theorem fits_T {b : Bool} {n : Int} (hb : b = true) : (fits04 b n = true) = (vOk n = true) := by unfold fits04; rw [if_pos hb]
theorem fits_F {b : Bool} {n : Int} (hb : b = false) : (fits04 b n = true) = (n = 0) := by unfold fits04; rw [if_neg (by rw [hb]; decide)]; simp
theorem hasD04_iff (o : Int) : hasD04 o = true ↔ o = 1 ∨ (2 ≤ o ∧ o ≤ 10) ∨ o = 11 ∨ o = 14 := by unfold hasD04; simp [or_assoc]
theorem hasA04_iff (o : Int) : hasA04 o = true ↔ (2 ≤ o ∧ o ≤ 10) ∨ o = 11 ∨ o = 12 ∨ o = 14 := by unfold hasA04; simp [or_assoc]
theorem hasB04_iff (o : Int) : hasB04 o = true ↔ (2 ≤ o ∧ o ≤ 10) ∨ o = 12 := by unfold hasB04; simp
theorem hasI04_iff (o : Int) : hasI04 o = true ↔ o = 1 ∨ o = 11 ∨ o = 12 := by unfold hasI04; simp [or_assoc]
theorem fits_of {b : Bool} {n : Int} {p : Prop} (hp : b = true ↔ p) (h1 : p → vOk n = true) (h2 : ¬ p → n = 0) : fits04 b n = true := by
 by_cases h : b = true
 ·rw [fits_T h]; exact h1 (hp.1 h)
 ·rw [fits_F (by simpa using h)]; exact h2 fun x => h (hp.2 x)
theorem of_fits {b : Bool} {n : Int} {p : Prop} (hp : b = true ↔ p) (h : fits04 b n = true) : (p → vOk n = true) ∧ (¬ p → n = 0) := by
 by_cases hb : b = true
 ·rw [fits_T hb] at h; exact ⟨fun _ => h, fun hn => absurd (hp.1 hb) hn⟩
 ·rw [fits_F (by simpa using hb)] at h; exact ⟨fun x => absurd (hp.2 x) hb, fun _ => h⟩
theorem immOk_zero : immOk 0 = true := by decide
theorem insB_iff (i : Ins) : insB i = true ↔ InsR i := by
 constructor
 ·intro h
  unfold insB at h
  simp only [Bool.and_eq_true, decide_eq_true_eq, beq_iff_eq] at h
  obtain ⟨⟨⟨o1, o2⟩, hm⟩, h⟩ := h
  by_cases e : i.op = 13
  ·rw [if_pos e] at h
   simp only [Bool.and_eq_true, decide_eq_true_eq, beq_iff_eq, List.all_eq_true] at h
   obtain ⟨⟨⟨⟨⟨⟨a0, b0⟩, i0⟩, c1, c2⟩, hd⟩, hl⟩, ha⟩ := h
   have hd' := of_fits (p := i.dst ≠ 0) (by simp) hd
   exact { op := ⟨o1, o2⟩, many := hm, call := fun _ => ⟨a0, b0, i0, c1, c2, hd'.1, hl, ha⟩, no := fun h => absurd e h, dst := fun h => absurd e h, dst0 := fun h => by omega, a := fun h => absurd e h, a0 := fun h => by omega, b := fun h1 h2 => by omega, b0 := fun h => by omega, imm := fun h => by omega, imm0 := fun h1 h2 => by omega }
  ·rw [if_neg e] at h
   simp only [Bool.and_eq_true, Bool.or_eq_true, decide_eq_true_eq, beq_iff_eq] at h
   obtain ⟨⟨⟨⟨⟨⟨hi, hk⟩, hc⟩, hl⟩, hd⟩, ha⟩, hb⟩ := h
   have hd' := of_fits (hasD04_iff i.op) hd
   have ha' := of_fits (hasA04_iff i.op) ha
   have hb' := of_fits (hasB04_iff i.op) hb
   rw [hasI04_iff] at hi
   exact { op := ⟨o1, o2⟩, many := hm, call := fun h => absurd h e, no := fun _ => ⟨hc, hl⟩, dst := fun _ _ => hd'.1 (by omega), dst0 := fun h => hd'.2 (by omega), a := fun _ _ => ha'.1 (by omega), a0 := fun h => ha'.2 (by omega), b := fun _ _ => hb'.1 (by omega), b0 := fun h => hb'.2 (by omega), imm := fun _ => hk, imm0 := fun _ _ => by rcases hi with hi | hi <;> omega }
 ·intro h
  obtain ⟨⟨o1, o2⟩, hm, hcall, hno, hdst, hdst0, ha, ha0, hb, hb0, himm, himm0⟩ := h
  unfold insB
  simp only [Bool.and_eq_true, decide_eq_true_eq, beq_iff_eq]
  refine ⟨⟨⟨o1, o2⟩, hm⟩, ?_⟩
  by_cases e : i.op = 13
  ·rw [if_pos e]
   obtain ⟨a0, b0, i0, c1, c2, hd, hl, hA⟩ := hcall e
   simp only [Bool.and_eq_true, decide_eq_true_eq, beq_iff_eq, List.all_eq_true]
   exact ⟨⟨⟨⟨⟨⟨a0, b0⟩, i0⟩, c1, c2⟩, fits_of (p := i.dst ≠ 0) (by simp) hd (fun h => by simpa using h)⟩, hl⟩, hA⟩
  ·rw [if_neg e]
   simp only [Bool.and_eq_true, Bool.or_eq_true, decide_eq_true_eq, beq_iff_eq]
   obtain ⟨hc, hl⟩ := hno e
   have hi : hasI04 i.op = true ∨ i.imm = 0 := by
    rw [hasI04_iff]
    by_cases h : i.op = 1 ∨ i.op = 11 ∨ i.op = 12
    ·exact .inl h
    ·exact .inr (himm0 (by omega) (by omega))
   have hk : immOk i.imm = true := by
    by_cases h : i.op = 1 ∨ i.op = 11 ∨ i.op = 12
    ·exact himm h
    ·rw [himm0 (by omega) (by omega)]; exact immOk_zero
   exact ⟨⟨⟨⟨⟨⟨hi, hk⟩, hc⟩, hl⟩, fits_of (hasD04_iff i.op) (fun h => hdst (by omega) (by omega)) (fun h => hdst0 (by omega))⟩, fits_of (hasA04_iff i.op) (fun h => ha (by omega) (by omega)) (fun h => ha0 (by omega))⟩, fits_of (hasB04_iff i.op) (fun h => hb (by omega) (by omega)) (fun h => hb0 (by omega))⟩
def termB (t : Term) : Bool :=
 if t.kind = 1 then t.a == 0 && t.to1 == 0
 else if t.kind = 2 then vOk t.a
 else if t.kind = 3 then fits04 (t.a != 0) t.a && (t.to0 == 0 && t.to1 == 0)
 else t.kind == 4 && (t.a == 0 && t.to0 == 0 && t.to1 == 0)
def goesB (t : Term) : Bool := (decide (0 ≤ t.to0) && decide (t.to0 < 64)) && (decide (0 ≤ t.to1) && decide (t.to1 < 64))
theorem termB_iff (t : Term) : (termB t && goesB t) = true ↔ TermR t := by
 unfold termB goesB
 simp only [Bool.and_eq_true, decide_eq_true_eq]
 constructor
 ·rintro ⟨h, ⟨x1, x2⟩, y1, y2⟩
  by_cases e1 : t.kind = 1
  ·rw [if_pos e1] at h
   simp only [Bool.and_eq_true, beq_iff_eq] at h
   exact ⟨by omega, fun _ => h, fun h => by omega, fun h => by omega, fun h => by omega, ⟨x1, x2⟩, y1, y2⟩
  rw [if_neg e1] at h
  by_cases e2 : t.kind = 2
  ·rw [if_pos e2] at h
   exact ⟨by omega, fun h => by omega, fun _ => h, fun h => by omega, fun h => by omega, ⟨x1, x2⟩, y1, y2⟩
  rw [if_neg e2] at h
  by_cases e3 : t.kind = 3
  ·rw [if_pos e3] at h
   simp only [Bool.and_eq_true, beq_iff_eq] at h
   have hd' := of_fits (p := t.a ≠ 0) (by simp) h.1
   exact ⟨by omega, fun h => by omega, fun h => by omega, fun _ => ⟨hd'.1, h.2⟩, fun h => by omega, ⟨x1, x2⟩, y1, y2⟩
  rw [if_neg e3] at h
  simp only [Bool.and_eq_true, beq_iff_eq] at h
  exact ⟨by omega, fun h => by omega, fun h => by omega, fun h => by omega, fun _ => ⟨h.2.1.1, h.2.1.2, h.2.2⟩, ⟨x1, x2⟩, y1, y2⟩
 ·intro h
  obtain ⟨⟨k1, k2⟩, hj, hb, hr, ht, x, y⟩ := h
  refine ⟨?_, x, y⟩
  by_cases e1 : t.kind = 1
  ·rw [if_pos e1]; simp [hj e1]
  rw [if_neg e1]
  by_cases e2 : t.kind = 2
  ·rw [if_pos e2]; exact hb e2
  rw [if_neg e2]
  by_cases e3 : t.kind = 3
  ·rw [if_pos e3]
   obtain ⟨h1, h2, h3⟩ := hr e3
   simp only [Bool.and_eq_true, beq_iff_eq]
   exact ⟨fits_of (p := t.a ≠ 0) (by simp) h1 (fun h => by simpa using h), h2, h3⟩
  rw [if_neg e3]
  have e4 : t.kind = 4 := by omega
  obtain ⟨h1, h2, h3⟩ := ht e4
  simp [e4, h1, h2, h3]
def blockB (b : Block) : Bool := decide (b.ins.length ≤ 64) && (termB b.term && goesB b.term) && b.ins.all insB
theorem blockB_iff (b : Block) : blockB b = true ↔ BlockR b := by
 unfold blockB
 simp only [Bool.and_eq_true, decide_eq_true_eq, List.all_eq_true]
 constructor
 ·rintro ⟨⟨h1, h2⟩, h3⟩
  exact ⟨h1, fun i hi => (insB_iff i).1 (h3 i hi), (termB_iff b.term).1 (by simp [h2.1, h2.2])⟩
 ·rintro ⟨h1, h2, h3⟩
  have := (termB_iff b.term).2 h3
  simp only [Bool.and_eq_true] at this
  exact ⟨⟨h1, this⟩, fun i hi => (insB_iff i).2 (h2 i hi)⟩
def parsB : List Int → List Int → Bool
 | _, [] => true
 | seen, p :: l => vOk p && !seen.contains p && parsB (seen ++ [p]) l
theorem parsB_iff : ∀ (l seen : List Int), seen.Nodup → (parsB seen l = true ↔ (∀ x ∈ l, vOk x = true) ∧ (seen ++ l).Nodup)
 | [], seen, hs => by simp [parsB, hs]
 | p :: l, seen, hs => by
  unfold parsB
  simp only [Bool.and_eq_true, Bool.not_eq_true']
  by_cases hp : p ∈ seen
  ·have hc : seen.contains p = true := by simpa using hp
   rw [hc]
   constructor
   ·rintro ⟨⟨_, h⟩, _⟩; cases h
   ·rintro ⟨_, h⟩
    rw [List.nodup_append] at h
    exact absurd rfl (h.2.2 p hp p (by simp))
  ·have hc : seen.contains p = false := by simpa using hp
   have hn : (seen ++ [p]).Nodup := by
    rw [List.nodup_append]
    exact ⟨hs, by simp, fun a ha b hb => by
     obtain rfl := List.mem_singleton.1 hb
     rintro rfl
     exact hp ha⟩
   rw [hc, parsB_iff l _ hn, List.append_assoc]
   simp only [List.mem_cons, forall_eq_or_imp, List.singleton_append, and_true, and_assoc]
def fncB (f : Fnc) : Bool := parsB [] f.params && (decide (f.params.length ≤ 8) && decide (1 ≤ f.blocks.length) && decide (f.blocks.length ≤ 64) && f.blocks.all blockB)
theorem fncB_iff (f : Fnc) : fncB f = true ↔ FncR f := by
 unfold fncB
 simp only [Bool.and_eq_true, decide_eq_true_eq, List.all_eq_true, parsB_iff f.params [] List.nodup_nil, List.nil_append]
 constructor
 ·rintro ⟨⟨h1, h2⟩, ⟨⟨h3, h4⟩, h5⟩, h6⟩
  exact ⟨h1, h3, h2, fun b hb => (blockB_iff b).1 (h6 b hb), h4, h5⟩
 ·rintro ⟨h1, h2, h3, h4, h5, h6⟩
  exact ⟨⟨h1, h3⟩, ⟨⟨h2, h5⟩, h6⟩, fun b hb => (blockB_iff b).2 (h4 b hb)⟩
def print04 (f : Fnc) : ByteArray × Int := if fncB f = true then (show04 f, 0) else (ByteArray.empty, 2)
end Go.Proofs.YtljglhaeonbfoaaGreatDoor
namespace Go.Proofs.YtljglhaeonbfoaaGreatDoor
end Go.Proofs.YtljglhaeonbfoaaGreatDoor
