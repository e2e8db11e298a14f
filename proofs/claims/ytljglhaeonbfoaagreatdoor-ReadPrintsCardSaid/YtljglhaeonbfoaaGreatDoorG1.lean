/- The program's structs, and what they read as. Written by gen_types.py. Words of a text, in plain Lean: a machine that takes rune by rune tells what the document tells. -/
import Derived.Test.YtljglhaeonbfoaaGreatDoorG0
import Derived.Laws.Cover4
import Derived.Lib.AtoiAll
set_option linter.unusedSimpArgs false
set_option linter.unusedVariables false
namespace Go.Proofs.YtljglhaeonbfoaaGreatDoor
open Go.RowKit
structure Word where
 kind : Int
 text : ByteArray
 n : Int
 line : Int
 col : Int
 deriving DecidableEq, Inhabited
instance : Rep Word := Rep.via fun x => (x.kind, x.text, x.n, x.line, x.col)
theorem Word.open_ {w : World} {S : Nat → Prop} {x : Word} {vs : List Value} (h : Rep.is w S x vs) : vs = [.int .i64 x.kind, .string x.text, .int .i64 x.n, .int .i64 x.line, .int .i64 x.col] ∧ InI x.kind ∧ x.text.size ≤ maxLen ∧ InI x.n ∧ InI x.line ∧ InI x.col := by
 obtain ⟨us0, ts0, e0, h0, r0⟩ := h
 obtain ⟨us1, ts1, e1, h1, r1⟩ := r0
 obtain ⟨us2, ts2, e2, h2, r2⟩ := r1
 obtain ⟨us3, ts3, e3, h3, r3⟩ := r2
 obtain ⟨v4, f4⟩ := h0
 obtain ⟨v5, f5⟩ := h1
 obtain ⟨v6, f6⟩ := h2
 obtain ⟨v7, f7⟩ := h3
 obtain ⟨v8, f8⟩ := r3
 refine ⟨?_, f4, f5, f6, f7, f8⟩
 subst_vars; simp
theorem Word.mk_ {w : World} {S : Nat → Prop} {x : Word} (f0 : InI x.kind) (f1 : x.text.size ≤ maxLen) (f2 : InI x.n) (f3 : InI x.line) (f4 : InI x.col) : Rep.is w S x [.int .i64 x.kind, .string x.text, .int .i64 x.n, .int .i64 x.line, .int .i64 x.col] := by
 exact ⟨_, _, rfl, ⟨rfl, f0⟩, ⟨_, _, rfl, ⟨rfl, f1⟩, ⟨_, _, rfl, ⟨rfl, f2⟩, ⟨_, _, rfl, ⟨rfl, f3⟩, ⟨rfl, f4⟩⟩⟩⟩⟩
theorem at_Word {w : World} {S : Nat → Prop} {A : Option Addr} {n c : Nat} {xs : List Word} (h : Sl w S A n c xs) {k : Nat} (hk : k < n) :
  ∃ b off, ∃ x : Word, A = some ⟨b, off, none⟩ ∧ b < w.heap.size ∧ xs[k]? = some x ∧ InI x.kind ∧ x.text.size ≤ maxLen ∧ InI x.n ∧ InI x.line ∧ InI x.col ∧ w.cell? ⟨b, off + k * 5, none⟩ = some (.int .i64 x.kind) ∧ w.cell? ⟨b, off + k * 5 + 1, none⟩ = some (.string x.text) ∧ w.cell? ⟨b, off + k * 5 + 2, none⟩ = some (.int .i64 x.n) ∧ w.cell? ⟨b, off + k * 5 + 3, none⟩ = some (.int .i64 x.line) ∧ w.cell? ⟨b, off + k * 5 + 4, none⟩ = some (.int .i64 x.col) := by
 obtain ⟨b, off, x, us, e, hb, _, hx, hus, hc⟩ := h.at_ hk
 obtain ⟨rfl, g0, g1, g2, g3, g4⟩ := Word.open_ hus
 refine ⟨b, off, x, e, hb, hx, g0, g1, g2, g3, g4, ?_, ?_, ?_, ?_, ?_⟩
 ·have := hc 0 _ rfl; simpa [Rep.size, Nat.add_assoc] using this
 ·have := hc 1 _ rfl; simpa [Rep.size, Nat.add_assoc] using this
 ·have := hc 2 _ rfl; simpa [Rep.size, Nat.add_assoc] using this
 ·have := hc 3 _ rfl; simpa [Rep.size, Nat.add_assoc] using this
 ·have := hc 4 _ rfl; simpa [Rep.size, Nat.add_assoc] using this
end Go.Proofs.YtljglhaeonbfoaaGreatDoor
namespace Go.Proofs.YtljglhaeonbfoaaGreatDoor
def isL (r : Int) : Bool := r == 95 || (decide (97 ≤ r) && decide (r ≤ 122)) || (decide (945 ≤ r) && decide (r ≤ 969))
def isD (r : Int) : Bool := decide (48 ≤ r) && decide (r ≤ 57)
def isLD (r : Int) : Bool := isL r || isD r
def isS (r : Int) : Bool := r == 61 || r == 44 || r == 58 || r == 40 || r == 41 || r == 91 || r == 93 || r == 43 || r == 8594 || r == 8592 || r == 183
def isB (r : Int) : Bool := r == 32 || r == 9
theorem isL_iff {r : Int} : isL r = true ↔ r = 95 ∨ (97 ≤ r ∧ r ≤ 122) ∨ (945 ≤ r ∧ r ≤ 969) := by simp [isL, or_assoc]
theorem isD_iff {r : Int} : isD r = true ↔ 48 ≤ r ∧ r ≤ 57 := by simp [isD]
theorem isS_iff {r : Int} : isS r = true ↔ r = 61 ∨ r = 44 ∨ r = 58 ∨ r = 40 ∨ r = 41 ∨ r = 91 ∨ r = 93 ∨ r = 43 ∨ r = 8594 ∨ r = 8592 ∨ r = 183 := by simp [isS, or_assoc]
theorem isL_off {r : Int} (h : ¬ (r = 95 ∨ (97 ≤ r ∧ r ≤ 122) ∨ (945 ≤ r ∧ r ≤ 969))) : isL r = false := by
 rw [← Bool.not_eq_true, isL_iff]; exact h
theorem isD_off {r : Int} (h : ¬ (48 ≤ r ∧ r ≤ 57)) : isD r = false := by rw [← Bool.not_eq_true, isD_iff]; exact h
def numN (s : ByteArray) : Int := match Lib.atoiAll s.data.toList with
 | .ok v => v
 | .range => Lib.atoiSat s.data.toList
 | _ => 0
def numBad (s : ByteArray) : Bool := match Lib.atoiAll s.data.toList with
 | .ok v => decide (v < -1099511627776) || decide (1099511627776 < v)
 | _ => true
structure St where
 line : Int
 col : Int
 state : Int
 fl : Int
 fc : Int
 text : List Int
 words : List Word
 wrong : Int
 al : Int
 ac : Int
def failS (e l c : Int) (st : St) : St := if st.wrong = 0 then { st with wrong := e, al := l, ac := c } else st
def putS (k : Int) (s : ByteArray) (n : Int) (st : St) : St := { st with words := st.words ++ [⟨k, s, n, st.fl, st.fc⟩] }
def closeS (st : St) : St :=
 let x := if st.state = 2 then putS 1 (runesBytes st.text) 0 (if 16 < st.text.length then failS 3 st.fl st.fc st else st)
  else if st.state = 4 then putS 2 (runesBytes st.text) (numN (runesBytes st.text)) (if numBad (runesBytes st.text) = true then failS 3 st.fl st.fc st else st)
  else if st.state = 3 then failS 6 st.fl st.fc st
  else st
 { x with text := [], state := 0 }
def beginS (c : Int) (st0 : St) : St :=
 let st := { st0 with fl := st0.line, fc := st0.col, text := [c] }
 if isL c = true then { st with state := 2 }
 else if isD c = true then { st with state := 4 }
 else if c = 45 then { st with state := 3 }
 else if c = 59 then { st with state := 1 }
 else if c = 10 then putS 4 ByteArray.empty 0 st
 else if isS c = true then putS 3 (Utf8.encode c) 0 st
 else if c ≠ 32 ∧ c ≠ 9 then failS 6 st.line st.col st
 else st
def takeS (c : Int) (st : St) : St :=
 if st.state = 1 then (if c = 10 then beginS c { st with state := 0 } else st)
 else if st.state = 2 ∧ isLD c = true then { st with text := st.text ++ [c] }
 else if (st.state = 3 ∨ st.state = 4) ∧ isD c = true then { st with text := st.text ++ [c], state := 4 }
 else beginS c (closeS (if st.state = 4 ∧ isL c = true then failS 6 (closeS st).line (closeS st).col (closeS st) else st))
def overS (c : Int) (st : St) : St := if c = 10 then { st with line := st.line + 1, col := 1 } else { st with col := st.col + 1 }
def runS : List Int → St → St
 | [], st => closeS st
 | c :: l, st =>
  if c < 0 then closeS (failS 6 (closeS st).line (closeS st).col (closeS st))
  else if st.wrong ≠ 0 then closeS st
  else runS l (overS c (takeS c st))
structure ReadR where
 words : List Word
 line : Int
 col : Int
 err : Int
def resS (st : St) : ReadR := if st.wrong ≠ 0 then ⟨[], st.al, st.ac, st.wrong⟩ else ⟨st.words, 0, 0, 0⟩
def st0 : St := ⟨1, 1, 0, 0, 0, [], [], 0, 0, 0⟩
def numLen : List Int → Nat
 | [] => 0
 | c :: t => if c = 45 then (if (t.takeWhile isD).length = 0 then 0 else (t.takeWhile isD).length + 1) else ((c :: t).takeWhile isD).length
def headL : List Int → Bool
 | [] => false
 | c :: _ => isL c
def errR (line col e : Int) : ReadR := ⟨[], line, col, e⟩
def refL : Nat → Int → Int → Bool → List Int → List Word → ReadR
 | 0, _, _, _, _, acc => ⟨acc, 0, 0, 0⟩
 | _ + 1, _, _, _, [], acc => ⟨acc, 0, 0, 0⟩
 | f + 1, line, col, rem, c :: t, acc =>
  if c < 0 then errR line col 6
  else if c = 10 then refL f (line + 1) 1 false t (acc ++ [⟨4, ByteArray.empty, 0, line, col⟩])
  else if rem = true ∨ isB c = true ∨ c = 59 then refL f line (col + 1) (rem || c == 59) t acc
  else if 0 < numLen (c :: t) then
   (if numBad (runesBytes ((c :: t).take (numLen (c :: t)))) = true then errR line col 3
    else if headL ((c :: t).drop (numLen (c :: t))) = true then errR line (col + numLen (c :: t)) 6
    else refL f line (col + numLen (c :: t)) false ((c :: t).drop (numLen (c :: t))) (acc ++ [⟨2, runesBytes ((c :: t).take (numLen (c :: t))), numN (runesBytes ((c :: t).take (numLen (c :: t)))), line, col⟩]))
  else if isL c = true then
   (if 16 < ((c :: t).takeWhile isLD).length then errR line col 3
    else refL f line (col + ((c :: t).takeWhile isLD).length) false ((c :: t).drop ((c :: t).takeWhile isLD).length) (acc ++ [⟨1, runesBytes ((c :: t).takeWhile isLD), 0, line, col⟩]))
  else if isS c = false then errR line col 6
  else refL f line (col + 1) false t (acc ++ [⟨3, Utf8.encode c, 0, line, col⟩])
theorem numLen_cons (c : Int) (t : List Int) : numLen (c :: t) = if c = 45 then (if (t.takeWhile isD).length = 0 then 0 else (t.takeWhile isD).length + 1) else ((c :: t).takeWhile isD).length := rfl
theorem runS_cons (c : Int) (l : List Int) (st : St) : runS (c :: l) st = if c < 0 then closeS (failS 6 (closeS st).line (closeS st).col (closeS st))
  else if st.wrong ≠ 0 then closeS st
  else runS l (overS c (takeS c st)) := rfl
theorem refL_cons (f : Nat) (line col : Int) (rem : Bool) (c : Int) (t : List Int) (acc : List Word) : refL (f + 1) line col rem (c :: t) acc =
  if c < 0 then errR line col 6
  else if c = 10 then refL f (line + 1) 1 false t (acc ++ [⟨4, ByteArray.empty, 0, line, col⟩])
  else if rem = true ∨ isB c = true ∨ c = 59 then refL f line (col + 1) (rem || c == 59) t acc
  else if 0 < numLen (c :: t) then
   (if numBad (runesBytes ((c :: t).take (numLen (c :: t)))) = true then errR line col 3
    else if headL ((c :: t).drop (numLen (c :: t))) = true then errR line (col + numLen (c :: t)) 6
    else refL f line (col + numLen (c :: t)) false ((c :: t).drop (numLen (c :: t))) (acc ++ [⟨2, runesBytes ((c :: t).take (numLen (c :: t))), numN (runesBytes ((c :: t).take (numLen (c :: t)))), line, col⟩]))
  else if isL c = true then
   (if 16 < ((c :: t).takeWhile isLD).length then errR line col 3
    else refL f line (col + ((c :: t).takeWhile isLD).length) false ((c :: t).drop ((c :: t).takeWhile isLD).length) (acc ++ [⟨1, runesBytes ((c :: t).takeWhile isLD), 0, line, col⟩]))
  else if isS c = false then errR line col 6
  else refL f line (col + 1) false t (acc ++ [⟨3, Utf8.encode c, 0, line, col⟩]) := rfl
end Go.Proofs.YtljglhaeonbfoaaGreatDoor
