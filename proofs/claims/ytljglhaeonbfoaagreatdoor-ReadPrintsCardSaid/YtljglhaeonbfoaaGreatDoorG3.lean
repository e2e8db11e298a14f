/- Regions that draw their order and make memory: each operation is shown once, from what the operations that it reads have left. Regions that draw their order and make memory: the law. append onto a literal that is full: the world grows, and no more. What may be held of an operation. Regions that draw their order and make memory, whose last operation waits for all others: the law. Regions that draw their order, in which one operation writes what those ahead of it read, and whose last operation waits for all others: the law. -/
import Derived.Test.YtljglhaeonbfoaaGreatDoorG0
import Derived.Test.YtljglhaeonbfoaaGreatDoorG2
import Derived.Deep.MidRow
set_option linter.unusedSimpArgs false
set_option linter.unusedVariables false
namespace Go.Proofs.YtljglhaeonbfoaaGreatDoor
open Go.RowKit
def ancOf (ops : Array Oper) : List (List Nat) :=
 ops.toList.foldl (fun acc o => acc ++ [(o.after.toList.filter (Region.binds .any)).foldl (fun l e =>
  (acc.getD e.on []).foldl (fun l j => if l.contains j then l else j :: l) (if l.contains e.on then l else e.on :: l)) []]) []
def flowOp (ops : Array Oper) (an : List (List Nat)) (k : Nat) (o : Oper) : Bool :=
 (an.getD k []).all (fun j => decide (j < k) && o.after.any fun e => Region.binds .any e && (e.on == j || (an.getD e.on []).contains j)) &&
 o.after.all (fun e => !Region.binds .any e || decide (e.on < k)) &&
 (List.range ops.size).all fun j => match (ops[j]?).bind (·.dst) with | none => true | some d => !(o.looksAt ops).contains d || (an.getD k []).contains j || (an.getD j []).contains k
def flowB (ops : Array Oper) (an : List (List Nat)) (Ws Ms : List Nat) (N : Nat) : Bool :=
 Region.noSelect ops &&
 (List.range ops.size).all (fun k => match ops[k]? with
  | none => true
  | some o => flowOp ops an k o && (match o.dst with | none => true | some d => decide (d < N) && (List.range ops.size).all fun j => j == k || (ops[j]?).bind (·.dst) != some d)) &&
 Ws.all fun k => Ms.all fun j => j == k || (an.getD j []).contains k ||
  (List.range ops.size).all fun i => i == k || (an.getD k []).contains i || match ops[i]?, (ops[j]?).bind (·.dst) with
   | some o, some d => !(o.looksAt ops).contains d
   | _, _ => true
def liveB (an : List (List Nat)) (Ws Ms : List Nat) (j : Nat) : Bool := !Ms.contains j || Ws.all fun k => k == j || (an.getD j []).contains k
abbrev Post := Value → World → Prop
structure HeldP where
 idx : Nat
 dst : Option Tmp
 post : Post
def valOf (a : Act) : Option Tmp → Value
 | none => undef
 | some d => a.tmps.getD d undef
def useH : List Bool → List HeldP → Act → World → (Act → Prop) → Prop
 | true :: ms, h :: hs, a, w, G => ∀ v, h.post v w → useH ms hs (a.put h.dst v) w G
 | false :: ms, _ :: hs, a, w, G => useH ms hs a w G
 | _, _, a, _, G => G a
def endH : List Bool → List HeldP → Act → World → (Act → Prop) → Prop
 | true :: ms, h :: hs, a, w, G => ∀ v, h.post v w → endH ms hs (a.put h.dst v) w G
 | false :: ms, h :: hs, a, w, G => ∀ v, endH ms hs (a.put h.dst v) w G
 | _, _, a, _, G => G a
def knownUpon (P : Program) (c : Value) (w : World) : Result Next → Prop
 | .ok (.value u) w' => w' = w ∧ u = c
 | .ok .skip w' => w' = w ∧ c = undef
 | .ok (.enter f args) w' => w' = w ∧ Calls P f args w (RetX c w)
 | _ => False
def KnownAt (P : Program) (ops : Array Oper) (o : Oper) (a : Act) (c : Value) (w : World) : Prop :=
 if Region.wanted o (yielded ops a.tmps) = true then knownUpon P c w ((execOp a.eval o).run P w) else c = undef
def onW (F : World → Prop) (wild : Bool) (w w' : World) : Prop := F w' ∧ (wild = false → ∃ u : Ext, w' = w.ext u)
def RetH (F : World → Prop) (wild : Bool) (post : Post) (w : World) (e : Ending) (w' : World) : Prop := ∃ v, e = .returned v ∧ post v w' ∧ onW F wild w w'
def heldUpon (P : Program) (F : World → Prop) (wild : Bool) (post : Post) (w : World) : Result Next → Prop
 | .ok (.value u) w' => post u w' ∧ onW F wild w w'
 | .ok .skip w' => post undef w' ∧ onW F wild w w'
 | .ok (.enter f args) w' => w' = w ∧ Calls P f args w (RetH F wild post w)
 | _ => False
def HeldAt (P : Program) (ops : Array Oper) (F : World → Prop) (wild : Bool) (o : Oper) (a : Act) (post : Post) (w : World) : Prop :=
 if Region.wanted o (yielded ops a.tmps) = true then heldUpon P F wild post w ((execOp a.eval o).run P w) else post undef w
def maskOf (ops : Array Oper) (o : Oper) (H : List HeldP) : List Bool := H.map fun h => match h.dst with | none => false | some d => (o.looksAt ops).contains d
def liveOf (an : List (List Nat)) (Ws Ms : List Nat) (H : List HeldP) : List Bool := H.map fun h => liveB an Ws Ms h.idx
def stable (F : World → Prop) (mem : Bool) (post : Post) : Prop := if mem = true then ∀ v w (u : Ext), F w → post v w → post v (w.ext u) else ∀ v w w', post v w → post v w'
section
variable {P : Program} {ops : Array Oper} {F : World → Prop} {Ws Ms : List Nat} {an : List (List Nat)} {Q : Act → World → Prop}
def Flow (P : Program) (ops : Array Oper) (F : World → Prop) (an : List (List Nat)) (Ws Ms : List Nat) (Q : Act → World → Prop) : List Oper → Nat → Act → List HeldP → Prop
 | [], _, a, H => ∀ w, F w → endH (liveOf an Ws Ms H) H a w fun a' => Q a' w
 | o :: rest, k, a, H =>
  (∃ c, (∀ w, F w → useH (maskOf ops o H) H a w fun a' => KnownAt P ops o a' c w) ∧ Flow P ops F an Ws Ms Q rest (k + 1) (a.put o.dst c) H) ∨
  (∃ post, stable F (Ms.contains k) post ∧ (∀ w, F w → useH (maskOf ops o H) H a w fun a' => HeldAt P ops F (Ws.contains k) o a' post w) ∧
   Flow P ops F an Ws Ms Q rest (k + 1) a (H ++ [⟨k, o.dst, post⟩]))
abbrev Kind := Value ⊕ Post
def postOf : Kind → Post
 | .inl c => fun v _ => v = c
 | .inr p => p
def actD (ops : Array Oper) (a0 : Act) (D : Nat → Kind) : Nat → Act
 | 0 => a0
 | k + 1 => match D k, ops[k]? with
  | .inl c, some o => (actD ops a0 D k).put o.dst c
  | _, _ => actD ops a0 D k
def heldD (ops : Array Oper) (D : Nat → Kind) : Nat → List HeldP
 | 0 => []
 | k + 1 => match D k, ops[k]? with
  | .inr p, some o => heldD ops D k ++ [⟨k, o.dst, p⟩]
  | _, _ => heldD ops D k
def stepD (P : Program) (ops : Array Oper) (F : World → Prop) (Ws Ms : List Nat) (a0 : Act) (D : Nat → Kind) (k : Nat) (o : Oper) : Prop :=
 match D k with
 | .inl c => ∀ w, F w → useH (maskOf ops o (heldD ops D k)) (heldD ops D k) (actD ops a0 D k) w fun a' => KnownAt P ops o a' c w
 | .inr p => stable F (Ms.contains k) p ∧ ∀ w, F w → useH (maskOf ops o (heldD ops D k)) (heldD ops D k) (actD ops a0 D k) w fun a' => HeldAt P ops F (Ws.contains k) o a' p w
theorem actD_congr {a0 : Act} {D D' : Nat → Kind} : ∀ k, (∀ i, i < k → D i = D' i) → actD ops a0 D k = actD ops a0 D' k
 | 0, _ => rfl
 | k + 1, h => by simp only [actD, h k (by omega), actD_congr k (fun i hi => h i (by omega))]
theorem heldD_congr {D D' : Nat → Kind} : ∀ k, (∀ i, i < k → D i = D' i) → heldD ops D k = heldD ops D' k
 | 0, _ => rfl
 | k + 1, h => by simp only [heldD, h k (by omega), heldD_congr k (fun i hi => h i (by omega))]
theorem stepD_congr {a0 : Act} {D D' : Nat → Kind} {k : Nat} {o : Oper} (h : ∀ i, i < k + 1 → D i = D' i) (hs : stepD P ops F Ws Ms a0 D k o) : stepD P ops F Ws Ms a0 D' k o := by
 unfold stepD at *
 rw [← h k (by omega), ← actD_congr k (fun i hi => h i (by omega)), ← heldD_congr k (fun i hi => h i (by omega))]
 exact hs
theorem flow_data {a0 : Act} : ∀ (rest : List Oper) (k : Nat) (D : Nat → Kind), ops.toList.drop k = rest → Flow P ops F an Ws Ms Q rest k (actD ops a0 D k) (heldD ops D k) →
  ∃ D', (∀ i, i < k → D' i = D i) ∧ (∀ i o, k ≤ i → ops[i]? = some o → stepD P ops F Ws Ms a0 D' i o) ∧
   ∀ w, F w → endH (liveOf an Ws Ms (heldD ops D' (k + rest.length))) (heldD ops D' (k + rest.length)) (actD ops a0 D' (k + rest.length)) w fun a' => Q a' w
 | [], k, D, hr, h => ⟨D, fun _ _ => rfl, fun i o hi ho => by
   have h1 : ops.size ≤ k := by simpa using hr
   have h2 := (Array.getElem?_eq_some_iff.1 ho).1
   omega, h⟩
 | o :: rest, k, D, hr, h => by
  have ho : ops[k]? = some o := by
   have := congrArg (·[0]?) hr
   simpa using this
  have hr' : ops.toList.drop (k + 1) = rest := by
   have := congrArg List.tail hr
   simpa [List.tail_drop] using this
  have upd : ∀ (K : Kind), ∃ D1 : Nat → Kind, (∀ i, i < k → D1 i = D i) ∧ D1 k = K := fun K => ⟨fun i => if i = k then K else D i, fun i hi => by simp [Nat.ne_of_lt hi], by simp⟩
  rcases h with ⟨c, h1, h2⟩ | ⟨p, hst, h1, h2⟩
  ·obtain ⟨D1, hd, hk⟩ := upd (.inl c)
   have ha : actD ops a0 D1 (k + 1) = (actD ops a0 D k).put o.dst c := by simp only [actD, hk, ho, actD_congr k hd]
   have hH : heldD ops D1 (k + 1) = heldD ops D k := by simp only [heldD, hk, heldD_congr k hd]
   obtain ⟨D2, hd2, hs2, he2⟩ := flow_data rest (k + 1) D1 hr' (by rw [ha, hH]; exact h2)
   refine ⟨D2, fun i hi => (hd2 i (by omega)).trans (hd i hi), fun i o' hi ho' => ?_, ?_⟩
   ·by_cases e : i = k
    ·subst e
     obtain rfl : o = o' := by rw [ho] at ho'; exact Option.some.inj ho'
     refine stepD_congr (D := D1) (fun j hj => (hd2 j hj).symm) ?_
     unfold stepD; rw [hk, heldD_congr i hd, actD_congr i hd]; exact h1
    ·exact hs2 i o' (by omega) ho'
   ·rw [show k + (o :: rest).length = k + 1 + rest.length by simp; omega]; exact he2
  ·obtain ⟨D1, hd, hk⟩ := upd (.inr p)
   have ha : actD ops a0 D1 (k + 1) = actD ops a0 D k := by simp only [actD, hk, actD_congr k hd]
   have hH : heldD ops D1 (k + 1) = heldD ops D k ++ [⟨k, o.dst, p⟩] := by simp only [heldD, hk, ho, heldD_congr k hd]
   obtain ⟨D2, hd2, hs2, he2⟩ := flow_data rest (k + 1) D1 hr' (by rw [ha, hH]; exact h2)
   refine ⟨D2, fun i hi => (hd2 i (by omega)).trans (hd i hi), fun i o' hi ho' => ?_, ?_⟩
   ·by_cases e : i = k
    ·subst e
     obtain rfl : o = o' := by rw [ho] at ho'; exact Option.some.inj ho'
     refine stepD_congr (D := D1) (fun j hj => (hd2 j hj).symm) ?_
     unfold stepD; rw [hk, heldD_congr i hd, actD_congr i hd]; exact ⟨hst, h1⟩
    ·exact hs2 i o' (by omega) ho'
   ·rw [show k + (o :: rest).length = k + 1 + rest.length by simp; omega]; exact he2
def putsFrom (s : Act) (l : List (Option Tmp)) (a : Act) : Act := l.foldl (fun a d => a.put d (valOf s d)) a
theorem put_size (a : Act) (d : Option Tmp) (v : Value) : (a.put d v).tmps.size = a.tmps.size := by cases d <;> simp [Act.put]
theorem put_def (a : Act) (d : Option Tmp) (v : Value) : (a.put d v).defers = a.defers := by cases d <;> simp [Act.put]
theorem put_get (a : Act) (d : Option Tmp) (v : Value) (t : Tmp) (ht : t < a.tmps.size) : (a.put d v).tmps[t]? = if d = some t then some v else a.tmps[t]? := by
 cases d with
 | none => simp [Act.put]
 | some d =>
  by_cases e : d = t
  ·subst e; simp [Act.put, ht]
  ·simp [Act.put, Array.getElem?_setIfInBounds_ne e, e]
theorem putsFrom_spec (s : Act) : ∀ (l : List (Option Tmp)) (a : Act), s.tmps.size = a.tmps.size → (putsFrom s l a).tmps.size = a.tmps.size ∧ (putsFrom s l a).defers = a.defers ∧
  ∀ t, t < a.tmps.size → (putsFrom s l a).tmps[t]? = if some t ∈ l then s.tmps[t]? else a.tmps[t]?
 | [], a, _ => ⟨rfl, rfl, fun t _ => by simp [putsFrom]⟩
 | d :: l, a, hs => by
  obtain ⟨h1, h2, h3⟩ := putsFrom_spec s l (a.put d (valOf s d)) (by rw [put_size]; exact hs)
  refine ⟨h1.trans (put_size ..), h2.trans (put_def ..), fun t ht => ?_⟩
  show (putsFrom s l (a.put d (valOf s d))).tmps[t]? = _
  rw [h3 t (by rw [put_size]; exact ht), put_get _ _ _ _ ht]
  by_cases hm : some t ∈ l
  ·simp [hm]
  ·by_cases e : d = some t
   ·subst e
    have : t < s.tmps.size := by omega
    simp [hm, valOf, this]
   ·have : some t ≠ d := fun h => e h.symm
    simp [hm, e, this]
theorem act_ext {a b : Act} (hs : a.tmps.size = b.tmps.size) (hd : a.defers = b.defers) (h : ∀ t, t < a.tmps.size → a.tmps[t]? = b.tmps[t]?) : a = b := by
 obtain ⟨ta, da⟩ := a; obtain ⟨tb, db⟩ := b
 simp only at hs hd h
 subst hd
 congr 1
 refine Array.ext_getElem? fun i => ?_
 by_cases hi : i < ta.size
 ·exact h i hi
 ·rw [Array.getElem?_eq_none (by omega), Array.getElem?_eq_none (by omega)]
theorem put_val (s a : Act) {d : Option Tmp} {v : Value} (h : ∀ t, d = some t → v = valOf s (some t)) : a.put d v = a.put d (valOf s d) := by
 cases d with
 | none => rfl
 | some t => rw [h t rfl]
def says (s : Act) (p : HeldP) (w : World) : Prop := ∃ v, p.post v w ∧ ∀ t, p.dst = some t → v = valOf s (some t)
theorem useH_out (s : Act) {w : World} {G : Act → Prop} : ∀ (ms : List Bool) (H : List HeldP) (a : Act), ms.length = H.length → (∀ p ∈ ms.zip H, p.1 = true → says s p.2 w) → useH ms H a w G →
  G (putsFrom s ((ms.zip H).filterMap fun p => if p.1 then some p.2.dst else none) a)
 | [], [], a, _, _, h => h
 | true :: ms, p :: H, a, hl, hp, h => by
  obtain ⟨v, hv, he⟩ := hp (true, p) (by simp) rfl
  have := useH_out s ms H (a.put p.dst v) (by simpa using hl) (fun q hq => hp q (by simp [hq])) (h _ hv)
  rw [put_val s a he] at this
  simpa [putsFrom] using this
 | false :: ms, p :: H, a, hl, hp, h => by
  have := useH_out s ms H a (by simpa using hl) (fun q hq => hp q (by simp [hq])) h
  simpa [putsFrom] using this
theorem endH_out (s : Act) {w : World} {G : Act → Prop} : ∀ (ms : List Bool) (H : List HeldP) (a : Act), ms.length = H.length → (∀ p ∈ ms.zip H, p.1 = true → says s p.2 w) → endH ms H a w G →
  G (putsFrom s (H.map (·.dst)) a)
 | [], [], a, _, _, h => h
 | true :: ms, p :: H, a, hl, hp, h => by
  obtain ⟨v, hv, he⟩ := hp (true, p) (by simp) rfl
  have := endH_out s ms H (a.put p.dst v) (by simpa using hl) (fun q hq => hp q (by simp [hq])) (h _ hv)
  rw [put_val s a he] at this
  simpa [putsFrom] using this
 | false :: ms, p :: H, a, hl, hp, h => by
  have := endH_out s ms H (a.put p.dst (valOf s p.dst)) (by simpa using hl) (fun q hq => hp q (by simp [hq])) (h _)
  simpa [putsFrom] using this
theorem actD_size {a0 : Act} {D : Nat → Kind} : ∀ k, (actD ops a0 D k).tmps.size = a0.tmps.size ∧ (actD ops a0 D k).defers = a0.defers
 | 0 => ⟨rfl, rfl⟩
 | k + 1 => by
  have := actD_size (a0 := a0) (D := D) k
  unfold actD
  split
  ·rw [put_size, put_def]; exact this
  ·exact this
theorem actD_other {a0 : Act} {D : Nat → Kind} {t : Tmp} (ht : t < a0.tmps.size) : ∀ k, (∀ j o, j < k → ops[j]? = some o → o.dst = some t → ∀ c, D j ≠ .inl c) → (actD ops a0 D k).tmps[t]? = a0.tmps[t]?
 | 0, _ => rfl
 | k + 1, h => by
  have ih := actD_other ht k (fun j o hj => h j o (by omega))
  unfold actD
  split
  ·rename_i c o hd ho
   rw [put_get _ _ _ _ (by rw [(actD_size k).1]; exact ht), if_neg (fun e => h k o (by omega) ho e c hd)]
   exact ih
  ·exact ih
theorem actD_known {a0 : Act} {D : Nat → Kind} {t : Tmp} {j : Nat} {o : Oper} {c : Value} (ht : t < a0.tmps.size) (ho : ops[j]? = some o) (hd : o.dst = some t) (hD : D j = .inl c)
  (hn : ∀ i o', ops[i]? = some o' → o'.dst = some t → i = j) : ∀ k, j < k → (actD ops a0 D k).tmps[t]? = some c
 | 0, h => by omega
 | k + 1, h => by
  unfold actD
  by_cases e : j = k
  ·subst e
   simp only [hD, ho]
   rw [put_get _ _ _ _ (by rw [(actD_size j).1]; exact ht), if_pos hd]
  ·have ih := actD_known ht ho hd hD hn k (by omega)
   split
   ·rename_i c' o' hd' ho'
    rw [put_get _ _ _ _ (by rw [(actD_size k).1]; exact ht), if_neg (fun h => e (hn k o' ho' h).symm)]
    exact ih
   ·exact ih
theorem heldD_mem {D : Nat → Kind} : ∀ k (h : HeldP), h ∈ heldD ops D k ↔ h.idx < k ∧ ∃ o, ops[h.idx]? = some o ∧ h.dst = o.dst ∧ D h.idx = .inr h.post
 | 0, h => by simp [heldD]
 | k + 1, h => by
  have ih := heldD_mem (D := D) k h
  unfold heldD
  split
  ·rename_i p o hD ho
   rw [List.mem_append, ih, List.mem_singleton]
   constructor
   ·rintro (⟨h1, h2⟩ | rfl)
    ·exact ⟨by omega, h2⟩
    ·exact ⟨by simp, o, ho, rfl, hD⟩
   ·rintro ⟨h1, o', h2, h3, h4⟩
    by_cases e : h.idx = k
    ·right
     obtain ⟨i, d, q⟩ := h
     simp only at e h2 h3 h4
     subst e
     rw [ho] at h2; rw [hD] at h4
     cases h2; cases h4; rw [h3]
    ·exact .inl ⟨by omega, o', h2, h3, h4⟩
  ·rename_i hno
   rw [ih]
   constructor
   ·rintro ⟨h1, h2⟩; exact ⟨by omega, h2⟩
   ·rintro ⟨h1, o', h2, h3, h4⟩
    refine ⟨?_, o', h2, h3, h4⟩
    rcases Nat.lt_or_ge h.idx k with h' | h'
    ·exact h'
    ·have e : h.idx = k := by omega
     rw [e] at h2 h4
     exact (hno _ _ h4 h2).elim
end
end Go.Proofs.YtljglhaeonbfoaaGreatDoor
namespace Go.Proofs.YtljglhaeonbfoaaGreatDoor
open Go.RowKit
section
variable {P : Program} {ops : Array Oper} {F : World → Prop} {Ws Ms : List Nat} {an : List (List Nat)} {Q : Act → World → Prop}
structure FlowOk (ops : Array Oper) (an : List (List Nat)) (Ws Ms : List Nat) (N : Nat) : Prop where
 sel : Region.noSelect ops = true
 low : ∀ (k : Nat) (o : Oper), ops[k]? = some o → ∀ j ∈ an.getD k [], j < k ∧ ∃ e ∈ o.after, Region.binds .any e = true ∧ (e.on = j ∨ j ∈ an.getD e.on [])
 aft : ∀ (k : Nat) (o : Oper), ops[k]? = some o → ∀ e ∈ o.after, Region.binds .any e = true → e.on < k
 use : ∀ (k : Nat) (o : Oper), ops[k]? = some o → ∀ (j : Nat) (o' : Oper) d, ops[j]? = some o' → o'.dst = some d → d ∈ o.looksAt ops → j ∈ an.getD k [] ∨ k ∈ an.getD j []
 bnd : ∀ (k : Nat) (o : Oper) d, ops[k]? = some o → o.dst = some d → d < N
 one : ∀ (k : Nat) (o : Oper) d, ops[k]? = some o → o.dst = some d → ∀ (j : Nat) (o' : Oper), ops[j]? = some o' → o'.dst = some d → j = k
 wild : ∀ k ∈ Ws, ∀ j ∈ Ms, j = k ∨ k ∈ an.getD j [] ∨ ∀ (i : Nat) (o o' : Oper) d, ops[i]? = some o → ops[j]? = some o' → o'.dst = some d → d ∈ o.looksAt ops → i = k ∨ i ∈ an.getD k []
theorem range_all {n : Nat} {p : Nat → Bool} (h : (List.range n).all p = true) {k : Nat} (hk : k < n) : p k = true := List.all_eq_true.1 h k (List.mem_range.2 hk)
theorem flowOk_of {N : Nat} (h : flowB ops an Ws Ms N = true) : FlowOk ops an Ws Ms N := by
 unfold flowB at h
 simp only [Bool.and_eq_true] at h
 obtain ⟨⟨h1, h2⟩, h3⟩ := h
 have get : ∀ (k : Nat) (o : Oper), ops[k]? = some o → flowOp ops an k o = true ∧ (match o.dst with | none => true | some d => decide (d < N) && (List.range ops.size).all fun j => j == k || (ops[j]?).bind (·.dst) != some d) = true := fun k o ho => by
  have := range_all h2 (Array.getElem?_eq_some_iff.1 ho).1
  rw [ho] at this; exact Bool.and_eq_true_iff.1 this
 have getOp : ∀ (k : Nat) (o : Oper), ops[k]? = some o → _ := fun k o ho => by
  have := (get k o ho).1
  unfold flowOp at this
  simp only [Bool.and_eq_true] at this
  exact this
 refine ⟨h1, fun k o ho j hj => ?_, fun k o ho e he hb => ?_, fun k o ho j o' d ho' hd hl => ?_, fun k o d ho hd => ?_, fun k o d ho hd j o' ho' hd' => ?_, fun k hk j hj => ?_⟩
 ·have := List.all_eq_true.1 (getOp k o ho).1.1 j hj
  simp only [Bool.and_eq_true, decide_eq_true_eq] at this
  obtain ⟨a, b⟩ := this
  rw [Array.any_eq_true'] at b
  obtain ⟨e, he, hb⟩ := b
  simp only [Bool.and_eq_true, Bool.or_eq_true, beq_iff_eq, List.contains_iff_mem] at hb
  exact ⟨a, e, he, hb⟩
 ·have := (getOp k o ho).1.2
  rw [Array.all_eq_true_iff_forall_mem] at this
  have := this e he
  simp only [hb, Bool.not_true, Bool.false_or, decide_eq_true_eq] at this
  exact this
 ·have := range_all (getOp k o ho).2 (Array.getElem?_eq_some_iff.1 ho').1
  simp only [ho', Option.bind_some, hd, Bool.or_eq_true, Bool.not_eq_true', List.contains_iff_mem] at this
  rcases this with (h | h) | h
  ·rw [← Bool.not_eq_true, List.contains_iff_mem] at h; exact (h hl).elim
  ·exact .inl h
  ·exact .inr h
 ·have := (get k o ho).2
  simp only [hd, Bool.and_eq_true, decide_eq_true_eq] at this
  exact this.1
 ·have := (get k o ho).2
  simp only [hd, Bool.and_eq_true] at this
  have := range_all this.2 (Array.getElem?_eq_some_iff.1 ho').1
  simpa [ho', hd'] using this
 ·have := List.all_eq_true.1 (List.all_eq_true.1 h3 k hk) j hj
  simp only [Bool.or_eq_true, beq_iff_eq, List.contains_iff_mem] at this
  rcases this with (h | h) | h
  ·exact .inl h
  ·exact .inr (.inl h)
  ·refine .inr (.inr fun i o o' d ho ho' hd hl => ?_)
   have := range_all h (Array.getElem?_eq_some_iff.1 ho).1
   simp only [ho, ho', Option.bind_some, hd, Bool.or_eq_true, beq_iff_eq, List.contains_iff_mem, Bool.not_eq_true'] at this
   rcases this with (h | h) | h
   ·exact .inl h
   ·exact .inr h
   ·rw [← Bool.not_eq_true, List.contains_iff_mem] at h; exact (h hl).elim
def liveAt (an : List (List Nat)) (Ws Ms : List Nat) (D : Nat → Kind) (listed : Array Bool) (j : Nat) : Prop := (∃ c, D j = .inl c) ∨ (j ∈ Ms → ∀ k ∈ Ws, listed.getD k false = true → k = j ∨ k ∈ an.getD j [])
structure FlowInv (ops : Array Oper) (F : World → Prop) (an : List (List Nat)) (Ws Ms : List Nat) (a0 : Act) (D : Nat → Kind) (listed : Array Bool) (a : Act) (w : World) : Prop where
 hF : F w
 lsz : listed.size = ops.size
 size : a.tmps.size = a0.tmps.size
 defs : a.defers = a0.defers
 out : ∀ t, (∀ (j : Nat) (o : Oper), ops[j]? = some o → listed.getD j false = true → o.dst ≠ some t) → a.tmps[t]? = a0.tmps[t]?
 closed : ∀ k, listed.getD k false = true → ∀ j ∈ an.getD k [], listed.getD j false = true
 got : ∀ (j : Nat) (o : Oper), ops[j]? = some o → listed.getD j false = true → liveAt an Ws Ms D listed j → ∃ v, postOf (D j) v w ∧ ∀ t, o.dst = some t → v = valOf a (some t)
theorem getD_ff {listed : Array Bool} {i : Nat} (h : listed.getD i true = false) : listed.getD i false = false := by
 rcases Nat.lt_or_ge i listed.size with h' | h'
 ·simp [h'] at h ⊢; exact h
 ·simp [Array.getElem?_eq_none h']
theorem getD_set {listed : Array Bool} {i j : Nat} (hi : i < listed.size) : (listed.setIfInBounds i true).getD j false = true ↔ j = i ∨ listed.getD j false = true := by
 by_cases e : i = j
 ·subst e; simp [hi]
 ·rw [getD_set_ne false e]; exact ⟨.inr, fun h => h.resolve_left fun h => e h.symm⟩
theorem FlowInv.step {a0 : Act} {D : Nat → Kind} {listed : Array Bool} {a : Act} {w w' : World} {k : Nat} {o : Oper} {v : Value} (ok : FlowOk ops an Ws Ms a0.tmps.size) (I : FlowInv ops F an Ws Ms a0 D listed a w)
  (ho : ops[k]? = some o) (hr : k ∈ Region.ready .any ops listed) (hst : ∀ c, D k = .inl c ∨ stable F (Ms.contains k) (postOf (D k)))
  (hsts : ∀ (j : Nat) (o : Oper), ops[j]? = some o → ∀ p, D j = .inr p → stable F (Ms.contains j) p)
  (hw : onW F (Ws.contains k) w w') (hp : postOf (D k) v w') : FlowInv ops F an Ws Ms a0 D (listed.setIfInBounds k true) (a.put o.dst v) w' := by
 have hk := (Array.getElem?_eq_some_iff.1 ho).1
 have hkl : k < listed.size := by rw [I.lsz]; exact hk
 have hun := (mem_ready.1 hr).1
 have hunf := getD_ff hun
 refine ⟨hw.1, by simpa using I.lsz, (put_size ..).trans I.size, (put_def ..).trans I.defs, fun t ht => ?_, fun i hi j hj => ?_, fun j o' ho' hj hl => ?_⟩
 ·by_cases htt : t < a.tmps.size
  ·rw [put_get _ _ _ _ htt, if_neg (ht k o ho ((getD_set hkl).2 (.inl rfl)))]; exact I.out t fun j oj hj hl => ht j oj hj ((getD_set hkl).2 (.inr hl))
  ·have := I.out t fun j oj hj hl => ht j oj hj ((getD_set hkl).2 (.inr hl))
   rw [Array.getElem?_eq_none (by rw [put_size]; exact Nat.le_of_not_lt htt), Array.getElem?_eq_none (by rw [← I.size]; exact Nat.le_of_not_lt htt)]
 ·rw [getD_set hkl] at hi ⊢
  rcases hi with rfl | hi
  ·obtain ⟨_, e, he, hb, hj'⟩ := ok.low i o ho j hj
   obtain ⟨_, o2, ho2, hall⟩ := mem_ready.1 hr
   rw [ho] at ho2; cases ho2
   have := hall e he hb
   rcases hj' with rfl | hj'
   ·exact .inr this
   ·exact .inr (I.closed _ this j hj')
  ·exact .inr (I.closed i hi j hj)
 ·rw [getD_set hkl] at hj
  by_cases e : j = k
  ·subst e
   rw [ho] at ho'; cases ho'
   refine ⟨v, hp, fun d hd => ?_⟩
   have hb := ok.bnd j o d ho hd
   rw [← I.size] at hb
   have := put_get a o.dst v d hb
   rw [if_pos hd] at this
   simp only [valOf, Array.getD_eq_getD_getElem?, this, Option.getD_some]
  ·have hj : listed.getD j false = true := hj.resolve_left e
   have hv : ∀ d, o'.dst = some d → valOf (a.put o.dst v) (some d) = valOf a (some d) := fun d hd => by
    have hb := ok.bnd j o' d ho' hd
    rw [← I.size] at hb
    have := put_get a o.dst v d hb
    rw [if_neg (fun h => e (ok.one k o d ho h j o' ho' hd))] at this
    simp only [valOf, Array.getD_eq_getD_getElem?, this]
   have hl' : liveAt an Ws Ms D listed j := hl.imp id fun hl hm i hi hli => hl hm i hi ((getD_set hkl).2 (.inr hli))
   obtain ⟨x, hpj, hx⟩ := I.got j o' ho' hj hl'
   refine ⟨x, ?_, fun d hd => (hx d hd).trans (hv d hd).symm⟩
   cases hDj : D j with
   | inl c => rw [hDj] at hpj; exact hpj
   | inr p =>
    rw [hDj] at hpj
    have hs := hsts j o' ho' p hDj
    unfold stable at hs
    by_cases hm : j ∈ Ms
    ·rw [if_pos (List.contains_iff_mem.2 hm)] at hs
     have hnw : Ws.contains k = false := by
      rw [← Bool.not_eq_true, List.contains_iff_mem]
      intro hkW
      rcases hl.resolve_left (fun ⟨c, hc⟩ => by rw [hDj] at hc; cases hc) hm k hkW ((getD_set hkl).2 (.inl rfl)) with h | h
      ·exact e h.symm
      ·have := I.closed j hj k h
       rw [hunf] at this; cases this
     obtain ⟨u, rfl⟩ := hw.2 hnw
     exact hs _ _ u I.hF hpj
    ·rw [if_neg (by rw [List.contains_iff_mem]; exact hm)] at hs
     exact hs _ _ _ hpj
theorem wanted_congr {o : Oper} {t t' : Array Value} (h : ∀ d ∈ o.looksAt ops, t[d]? = t'[d]?) : Region.wanted o (yielded ops t) = Region.wanted o (yielded ops t') := by
 unfold Region.wanted
 cases hg : o.guard with
 | none => rfl
 | some gw =>
  obtain ⟨g, want⟩ := gw
  have hy : yielded ops t g = yielded ops t' g := by
   unfold yielded
   cases ht : (ops[g]?).bind (·.dst) with
   | none => rfl
   | some d => simp only [Option.bind_some, h d (by simp [Oper.looksAt, hg, ht])]
  simp only [hy]
theorem execOp_looks {o : Oper} {a a' : Act} (hs : ∀ cs b, o.op ≠ .select cs b) (h : ∀ d ∈ o.looksAt ops, a.tmps[d]? = a'.tmps[d]?) : execOp a.eval o = execOp a'.eval o :=
 execOp_congr o hs fun x hx => by
  cases x with
  | tmp d =>
   have hd : d ∈ o.looksAt ops := List.mem_append_left _ (List.mem_filterMap.2 ⟨.tmp d, by simpa using hx, rfl⟩)
   simp only [Act.eval, Array.getD_eq_getD_getElem?, h d hd]
  | _ => rfl
theorem FlowInv.looks {a0 : Act} {D : Nat → Kind} {listed : Array Bool} {a : Act} {w : World} {k : Nat} {o : Oper} (ok : FlowOk ops an Ws Ms a0.tmps.size) (I : FlowInv ops F an Ws Ms a0 D listed a w)
  (ho : ops[k]? = some o) (hr : k ∈ Region.ready .any ops listed) {G : Act → Prop}
  (h : useH (maskOf ops o (heldD ops D k)) (heldD ops D k) (actD ops a0 D k) w G) : ∃ a' : Act, G a' ∧ ∀ d ∈ o.looksAt ops, a.tmps[d]? = a'.tmps[d]? := by
 have hun := getD_ff (mem_ready.1 hr).1
 obtain ⟨_, o2, ho2, hall⟩ := mem_ready.1 hr
 rw [ho] at ho2; cases ho2
 have hanc : ∀ j ∈ an.getD k [], listed.getD j false = true := fun j hj => by
  obtain ⟨_, e, he, hb, hj'⟩ := ok.low k o ho j hj
  have := hall e he hb
  rcases hj' with rfl | hj'
  ·exact this
  ·exact I.closed _ this j hj'
 have hsz := actD_size (ops := ops) (a0 := a0) (D := D) k
 have hout := useH_out a _ _ _ (by simp [maskOf]) (fun p hp h1 => ?_) h
 ·refine ⟨_, hout, fun d hd => ?_⟩
  by_cases hdN : d < a0.tmps.size
  ·rw [(putsFrom_spec a _ _ (by rw [hsz.1, I.size])).2.2 d (by rw [hsz.1]; exact hdN)]
   split
   ·rfl
   ·rename_i hno
    by_cases hex : ∃ (j : Nat) (oj : Oper), ops[j]? = some oj ∧ oj.dst = some d
    ·obtain ⟨j, oj, hj, hjd⟩ := hex
     rcases ok.use k o ho j oj d hj hjd hd with hjk | hkj
     rotate_left
     ·have hkj' := (ok.low j oj hj k hkj).1
      have hjun : listed.getD j false ≠ true := fun hl => by have := I.closed j hl k hkj; rw [hun] at this; cases this
      rw [actD_other hdN k (fun j' oj' hlt hj' hjd' => by have := ok.one j oj d hj hjd j' oj' hj' hjd'; omega)]
      exact I.out d fun j' oj' hj' hl hjd' => by have := ok.one j oj d hj hjd j' oj' hj' hjd'; subst this; exact hjun hl
     cases hDj : D j with
     | inl c =>
      obtain ⟨v, hv, hx⟩ := I.got j oj hj (hanc j hjk) (.inl ⟨c, hDj⟩)
      ·rw [hDj] at hv
       rw [actD_known hdN hj hjd hDj (fun i o' hi h' => ok.one j oj d hj hjd i o' hi h') k (ok.low k o ho j hjk).1]
       have := hx d hjd
       rw [show v = c from hv] at this
       have hb : d < a.tmps.size := by rw [I.size]; exact hdN
       rw [Array.getElem?_eq_getElem hb]
       simp [valOf, hb] at this
       rw [this]
     | inr p =>
      refine absurd ?_ hno
      rw [List.mem_filterMap]
      refine ⟨(true, ⟨j, oj.dst, p⟩), ?_, by simp [hjd]⟩
      rw [maskOf, List.zip_map_left, List.mem_map]
      have hmem : (⟨j, oj.dst, p⟩ : HeldP) ∈ heldD ops D k := (heldD_mem k _).2 ⟨(ok.low k o ho j hjk).1, oj, hj, rfl, hDj⟩
      refine ⟨(⟨j, oj.dst, p⟩, ⟨j, oj.dst, p⟩), ?_, by simp [hjd, hd]⟩
      obtain ⟨i, hi⟩ := List.mem_iff_getElem?.1 hmem
      exact List.mem_iff_getElem?.2 ⟨i, by simp [List.getElem?_zip_eq_some, hi]⟩
    ·rw [actD_other hdN k (fun j oj _ hj hjd => (hex ⟨j, oj, hj, hjd⟩).elim)]
     exact I.out d fun j oj hj _ hjd => hex ⟨j, oj, hj, hjd⟩
  ·rw [Array.getElem?_eq_none (by rw [I.size]; exact Nat.le_of_not_lt hdN), Array.getElem?_eq_none (by rw [(putsFrom_spec a _ _ (by rw [hsz.1, I.size])).1, hsz.1]; exact Nat.le_of_not_lt hdN)]
 ·obtain ⟨i, hi⟩ := List.mem_iff_getElem?.1 hp
  rw [List.getElem?_zip_eq_some] at hi
  obtain ⟨hi1, hi2⟩ := hi
  have hmem := List.mem_iff_getElem?.2 ⟨i, hi2⟩
  rw [maskOf, List.getElem?_map, hi2] at hi1
  simp only [Option.map_some, Option.some.injEq] at hi1
  obtain ⟨hlt, oj, hj, hjd, hDj⟩ := (heldD_mem k _).1 hmem
  rw [h1] at hi1
  cases hd : p.2.dst with
  | none => rw [hd] at hi1; cases hi1
  | some d =>
   rw [hd] at hi1
   have hd' : d ∈ o.looksAt ops := List.contains_iff_mem.1 hi1
   have hjd' : oj.dst = some d := by rw [← hjd, hd]
   have hjk := (ok.use k o ho _ oj d hj hjd' hd').resolve_right fun h => by have := (ok.low _ oj hj k h).1; omega
   have hlive : liveAt an Ws Ms D listed p.2.idx := .inr fun hm i hi hli => by
    rcases ok.wild i hi _ hm with h | h | h
    ·exact .inl h.symm
    ·exact .inr h
    ·rcases h k o oj d ho hj hjd' hd' with h | h
     ·subst h; rw [hun] at hli; cases hli
     ·have := I.closed i hli k h; rw [hun] at this; cases this
   obtain ⟨v, hv, hx⟩ := I.got _ oj hj (hanc _ hjk) hlive
   rw [hDj] at hv
   exact ⟨v, hv, fun t ht => by rw [hd] at ht; exact hx t (by rw [hjd']; exact ht)⟩
theorem FlowInv.full {a0 : Act} {D : Nat → Kind} {listed : Array Bool} {a : Act} {w : World} (ok : FlowOk ops an Ws Ms a0.tmps.size) (I : FlowInv ops F an Ws Ms a0 D listed a w) (hr : Region.ready .any ops listed = []) :
  ∀ k, k < ops.size → listed.getD k false = true := by
 intro k
 induction k using Nat.strongRecOn with
 | _ k ih =>
  intro hk
  by_cases h : listed.getD k false = true
  ·exact h
  ·exfalso
   have hl : k < listed.size := by rw [I.lsz]; exact hk
   have hm : k ∈ Region.ready .any ops listed := mem_ready.2 ⟨by simp [hl] at h ⊢; exact h, ops[k], by simp [hk], fun e he hb => by
    have := ok.aft k ops[k] (by simp [hk]) e he hb
    exact ih _ this (by omega)⟩
   rw [hr] at hm; cases hm
theorem FlowInv.end_ {a0 : Act} {D : Nat → Kind} {listed : Array Bool} {a : Act} {w : World} (ok : FlowOk ops an Ws Ms a0.tmps.size) (I : FlowInv ops F an Ws Ms a0 D listed a w) (hr : Region.ready .any ops listed = [])
  (h : endH (liveOf an Ws Ms (heldD ops D ops.size)) (heldD ops D ops.size) (actD ops a0 D ops.size) w fun a' => Q a' w) : Q a w := by
 have hfull := I.full ok hr
 have hsz := actD_size (ops := ops) (a0 := a0) (D := D) ops.size
 have hout := endH_out a _ _ _ (by simp [liveOf]) (fun p hp h1 => ?_) h
 ·have hsp := putsFrom_spec a ((heldD ops D ops.size).map (·.dst)) (actD ops a0 D ops.size) (by rw [hsz.1, I.size])
  have : a = putsFrom a ((heldD ops D ops.size).map (·.dst)) (actD ops a0 D ops.size) := by
   refine act_ext (by rw [hsp.1, hsz.1, I.size]) (by rw [hsp.2.1, hsz.2, I.defs]) fun d hd => ?_
   rw [I.size] at hd
   rw [hsp.2.2 d (by rw [hsz.1]; exact hd)]
   split
   ·rfl
   ·rename_i hno
    by_cases hex : ∃ (j : Nat) (oj : Oper), ops[j]? = some oj ∧ oj.dst = some d
    ·obtain ⟨j, oj, hj, hjd⟩ := hex
     have hjn := (Array.getElem?_eq_some_iff.1 hj).1
     cases hDj : D j with
     | inl c =>
      rw [actD_known hd hj hjd hDj (fun i o' hi h' => ok.one j oj d hj hjd i o' hi h') _ hjn]
      obtain ⟨v, hv, hx⟩ := I.got j oj hj (hfull j hjn) (.inl ⟨c, hDj⟩)
      rw [hDj] at hv
      have := hx d hjd
      rw [show v = c from hv] at this
      have hb : d < a.tmps.size := by rw [I.size]; exact hd
      rw [Array.getElem?_eq_getElem hb]
      simp [valOf, hb] at this
      rw [this]
     | inr p =>
      exact absurd (List.mem_map.2 ⟨⟨j, oj.dst, p⟩, (heldD_mem _ _).2 ⟨hjn, oj, hj, rfl, hDj⟩, hjd⟩) hno
    ·rw [actD_other hd _ (fun j oj _ hj hjd => (hex ⟨j, oj, hj, hjd⟩).elim)]
     exact I.out d fun j oj hj _ hjd => hex ⟨j, oj, hj, hjd⟩
  rw [this]; exact hout
 ·obtain ⟨i, hi⟩ := List.mem_iff_getElem?.1 hp
  rw [List.getElem?_zip_eq_some] at hi
  obtain ⟨hi1, hi2⟩ := hi
  have hmem := List.mem_iff_getElem?.2 ⟨i, hi2⟩
  rw [liveOf, List.getElem?_map, hi2] at hi1
  simp only [Option.map_some, Option.some.injEq] at hi1
  obtain ⟨hlt, oj, hj, hjd, hDj⟩ := (heldD_mem _ _).1 hmem
  rw [h1] at hi1
  have hlive : liveAt an Ws Ms D listed p.2.idx := .inr fun hm i hi hli => by
   unfold liveB at hi1
   rw [List.contains_iff_mem.2 hm] at hi1
   simp only [Bool.not_true, Bool.false_or] at hi1
   have := List.all_eq_true.1 hi1 i hi
   simp only [Bool.or_eq_true, beq_iff_eq, List.contains_iff_mem] at this
   rcases this with h | h
   ·exact .inl h
   ·exact .inr h
  obtain ⟨v, hv, hx⟩ := I.got _ oj hj (hfull _ hlt) hlive
  rw [hDj] at hv
  exact ⟨v, hv, fun t ht => hx t (by rw [← hjd]; exact ht)⟩
theorem FlowInv.op {a0 : Act} {D : Nat → Kind} {listed : Array Bool} {a : Act} {w : World} {k : Nat} {Q' : Exit → Act → World → Prop} (hF : ∀ w (u : Ext), F w → F (w.ext u)) (ok : FlowOk ops an Ws Ms a0.tmps.size)
  (hD : ∀ (i : Nat) (o : Oper), ops[i]? = some o → stepD P ops F Ws Ms a0 D i o) (I : FlowInv ops F an Ws Ms a0 D listed a w) (hr : k ∈ Region.ready .any ops listed)
  {K : Act → World → Prop} (hK : ∀ a' w', FlowInv ops F an Ws Ms a0 D (listed.setIfInBounds k true) a' w' → K a' w') : wpOp P ops Q' k K a w := by
 obtain ⟨_, o, ho, _⟩ := mem_ready.1 hr
 have hsts : ∀ (j : Nat) (o : Oper), ops[j]? = some o → ∀ p, D j = .inr p → stable F (Ms.contains j) p := fun j o ho p hp => by
  have := hD j o ho
  unfold stepD at this
  rw [hp] at this
  exact this.1
 have go : ∀ v w', onW F (Ws.contains k) w w' → postOf (D k) v w' → K (a.put o.dst v) w' := fun v w' hw hp => by
  refine hK _ _ (I.step ok ho hr (fun c => ?_) hsts hw hp)
  cases hDk : D k with
  | inl c => exact .inr (by unfold stable; split <;> intros <;> assumption)
  | inr p => exact .inr (hsts k o ho p hDk)
 have self : onW F (Ws.contains k) w w := ⟨I.hF, fun _ => ⟨_, (ext_refl w).choose_spec⟩⟩
 have hs := hD k o ho
 unfold stepD at hs
 have sel := Region.noSelect_spec ok.sel k o
 unfold wpOp
 simp only [ho]
 cases hDk : D k with
 | inl c =>
  simp only [hDk] at hs
  obtain ⟨a', hk, hl⟩ := I.looks ok ho hr (hs w I.hF)
  unfold KnownAt at hk
  rw [← wanted_congr hl, ← execOp_looks (fun cs b => sel cs b ho) hl] at hk
  rw [hDk] at go
  by_cases hw : Region.wanted o (yielded ops a.tmps) = true
  ·rw [if_pos hw] at hk ⊢
   left
   unfold Oper.wp
   generalize (execOp a.eval o).run P w = r at hk
   cases r with
   | ok n w' =>
    cases n <;> simp only [knownUpon] at hk <;> simp only [Oper.upon]
    case value u => obtain ⟨rfl, rfl⟩ := hk; exact go _ _ self rfl
    case skip => obtain ⟨rfl, rfl⟩ := hk; exact go _ _ self rfl
    case enter f args =>
     obtain ⟨rfl, hc⟩ := hk
     refine hc.mono ?_
     rintro e w2 ⟨rfl, u, rfl⟩
     exact go _ _ ⟨hF _ u I.hF, fun _ => ⟨u, rfl⟩⟩ rfl
   | halt x w' => simp only [knownUpon] at hk
  ·rw [if_neg hw] at hk ⊢
   exact go _ _ self hk.symm
 | inr p =>
  simp only [hDk] at hs
  obtain ⟨a', hk, hl⟩ := I.looks ok ho hr (hs.2 w I.hF)
  unfold HeldAt at hk
  rw [← wanted_congr hl, ← execOp_looks (fun cs b => sel cs b ho) hl] at hk
  rw [hDk] at go
  by_cases hw : Region.wanted o (yielded ops a.tmps) = true
  ·rw [if_pos hw] at hk ⊢
   left
   unfold Oper.wp
   generalize (execOp a.eval o).run P w = r at hk
   cases r with
   | ok n w' =>
    cases n <;> simp only [heldUpon] at hk <;> simp only [Oper.upon]
    case value u => exact go _ _ hk.2 hk.1
    case skip => exact go _ _ hk.2 hk.1
    case enter f args =>
     obtain ⟨rfl, hc⟩ := hk
     refine hc.mono ?_
     rintro e w2 ⟨v, rfl, hp, hon⟩
     exact go _ _ hon hp
   | halt x w' => simp only [heldUpon] at hk
  ·rw [if_neg hw] at hk ⊢
   exact go _ _ self hk
theorem flow_any {a0 : Act} {D : Nat → Kind} {Q' : Exit → Act → World → Prop} (hF : ∀ w (u : Ext), F w → F (w.ext u)) (ok : FlowOk ops an Ws Ms a0.tmps.size)
  (hD : ∀ (i : Nat) (o : Oper), ops[i]? = some o → stepD P ops F Ws Ms a0 D i o)
  (hE : ∀ w, F w → endH (liveOf an Ws Ms (heldD ops D ops.size)) (heldD ops D ops.size) (actD ops a0 D ops.size) w fun a' => Q' .normal a' w) :
  ∀ (fuel : Nat) (listed : Array Bool) (a : Act) (w : World), listed.toList.count false ≤ fuel → FlowInv ops F an Ws Ms a0 D listed a w → wpAny P .any ops Q' fuel listed a w := by
 intro fuel
 induction fuel with
 | zero =>
  intro listed a w hc I
  have hnil : Region.ready .any ops listed = [] := by
   rw [List.eq_nil_iff_forall_not_mem]
   intro k hk
   have h0 := (mem_ready.1 hk).1
   have hlt : k < listed.size := by
    rcases Nat.lt_or_ge k listed.size with h | h
    ·exact h
    ·simp [Array.getElem?_eq_none h] at h0
   simp [hlt] at h0
   have : false ∈ listed.toList := by rw [← h0]; simp
   have := List.count_pos_iff.2 this
   omega
  exact ⟨hnil, I.end_ (Q := fun a w => Q' .normal a w) ok hnil (hE w I.hF)⟩
 | succ fuel ih =>
  intro listed a w hc I
  refine ⟨fun hnil => I.end_ (Q := fun a w => Q' .normal a w) ok hnil (hE w I.hF), fun k hk => ?_⟩
  refine I.op hF ok hD hk fun a' w' I' => ih _ a' w' ?_ I'
  have h0 := (mem_ready.1 hk).1
  have hlt : k < listed.size := by
   rcases Nat.lt_or_ge k listed.size with h | h
   ·exact h
   ·simp [Array.getElem?_eq_none h] at h0
  simp [hlt] at h0
  rw [Array.toList_setIfInBounds]
  have hlt' : k < listed.toList.length := by simpa using hlt
  have hg : listed.toList[k] = false := by simpa using h0
  rw [List.set_eq_take_append_cons_drop]
  rw [if_pos hlt', List.count_append, List.count_cons_of_ne (by simp)]
  have hsplit : listed.toList = listed.toList.take k ++ false :: listed.toList.drop (k + 1) := by
   rw [← hg, List.getElem_cons_drop, List.take_append_drop]
  have := congrArg (List.count false) hsplit
  rw [List.count_append, List.count_cons_self] at this
  omega
theorem wp_region_flow {id : Nat} {Q' : Exit → Act → World → Prop} {a : Act} {w : World} {l : List Oper} {F : World → Prop} {Ws Ms : List Nat} {N : Nat} (hm : P.follows .mixedOrders = true) (hN : a.tmps.size = N)
  (hB : flowB l.toArray (ancOf l.toArray) Ws Ms N = true) (hF0 : F w.drew) (hF : ∀ w (u : Ext), F w → F (w.ext u))
  (h : Flow P l.toArray F (ancOf l.toArray) Ws Ms (fun a w => Q' .normal a w) l 0 a []) : (Code.region id l.toArray true).wp P Q' a w := by
 subst hN
 obtain ⟨D, _, hD, hE⟩ := flow_data (ops := l.toArray) (a0 := a) l 0 (fun _ => .inl undef) (by simp) h
 refine wp_region_any hm (flow_any hF (flowOk_of hB) (fun i o ho => hD i o (by omega) ho) (by simpa using hE) _ _ _ _ ?_ ?_)
 ·simp
 ·refine ⟨hF0, by simp, rfl, rfl, fun _ _ => rfl, fun k hk => ?_, fun j o ho hj => ?_⟩
  ·simp [Array.getElem?_replicate] at hk; split at hk <;> simp at hk
  ·simp [Array.getElem?_replicate] at hj; split at hj <;> simp at hj
attribute [go_sem] KnownAt knownUpon HeldAt heldUpon
theorem wp_region_flow_ext {id : Nat} {Q' : Exit → Act → World → Prop} {a : Act} {w : World} {l : List Oper} (Ws Ms : List Nat) {N : Nat} (hm : P.follows .mixedOrders = true) (hN : a.tmps.size = N)
  (hB : flowB l.toArray (ancOf l.toArray) Ws Ms N = true)
  (h : Flow P l.toArray (fun w' => ∃ u : Ext, w' = w.ext u) (ancOf l.toArray) Ws Ms (fun a w => Q' .normal a w) l 0 a []) : (Code.region id l.toArray true).wp P Q' a w :=
 wp_region_flow hm hN hB (ext_drew w) (fun _ u ⟨x, hx⟩ => by rw [hx]; exact ext_ext w x u) h
theorem useH_none {a : Act} {w : World} {G : Act → Prop} (h : G a) : ∀ (ms : List Bool) (H : List HeldP), ms.all (! ·) = true → useH ms H a w G
 | [], _, _ => by unfold useH; exact h
 | true :: _, _, hm => by simp at hm
 | false :: ms, [], _ => by unfold useH; exact h
 | false :: ms, _ :: H, hm => by unfold useH; exact useH_none h ms H (by simpa using hm)
section
variable {o : Oper} {rest : List Oper} {k : Nat} {a : Act} {H : List HeldP}
theorem flow_known (hms : (maskOf ops o H).all (! ·) = true)
  (h : ∀ K : Act → Prop, (∀ a, Flow P ops F an Ws Ms Q rest (k + 1) a H → K a) → ∃ c, (∀ w, F w → KnownAt P ops o a c w) ∧ K (a.put o.dst c)) : Flow P ops F an Ws Ms Q (o :: rest) k a H := by
 obtain ⟨c, h1, h2⟩ := h _ fun _ h => h
 exact .inl ⟨c, fun w hw => useH_none (h1 w hw) _ _ hms, h2⟩
theorem flow_known_use (ms : List Bool) (c : Value) (hms : maskOf ops o H = ms) (h1 : ∀ w, F w → useH ms H a w fun a' => KnownAt P ops o a' c w) (h2 : Flow P ops F an Ws Ms Q rest (k + 1) (a.put o.dst c) H) : Flow P ops F an Ws Ms Q (o :: rest) k a H :=
 .inl ⟨c, fun w hw => hms ▸ h1 w hw, h2⟩
theorem flow_held0 (post : Post) (hms : (maskOf ops o H).all (! ·) = true) (hst : stable F (Ms.contains k) post) (h1 : ∀ w, F w → HeldAt P ops F (Ws.contains k) o a post w)
  (h2 : Flow P ops F an Ws Ms Q rest (k + 1) a (H ++ [⟨k, o.dst, post⟩])) : Flow P ops F an Ws Ms Q (o :: rest) k a H :=
 .inr ⟨post, hst, fun w hw => useH_none (h1 w hw) _ _ hms, h2⟩
theorem flow_nil (ms : List Bool) (hms : liveOf an Ws Ms H = ms) (h : ∀ w, F w → endH ms H a w fun a' => Q a' w) : Flow P ops F an Ws Ms Q [] k a H := fun w hw => hms ▸ h w hw
end
theorem useH_nil {H : List HeldP} {a : Act} {w : World} {G : Act → Prop} : useH [] H a w G = G a := by unfold useH; rfl
theorem useH_t {m : List Bool} {h : HeldP} {H : List HeldP} {a : Act} {w : World} {G : Act → Prop} : useH (true :: m) (h :: H) a w G = ∀ v, h.post v w → useH m H (a.put h.dst v) w G := rfl
theorem useH_f {m : List Bool} {h : HeldP} {H : List HeldP} {a : Act} {w : World} {G : Act → Prop} : useH (false :: m) (h :: H) a w G = useH m H a w G := rfl
theorem endH_nil {H : List HeldP} {a : Act} {w : World} {G : Act → Prop} : endH [] H a w G = G a := by unfold endH; rfl
theorem endH_t {m : List Bool} {h : HeldP} {H : List HeldP} {a : Act} {w : World} {G : Act → Prop} : endH (true :: m) (h :: H) a w G = ∀ v, h.post v w → endH m H (a.put h.dst v) w G := rfl
theorem endH_f {m : List Bool} {h : HeldP} {H : List HeldP} {a : Act} {w : World} {G : Act → Prop} : endH (false :: m) (h :: H) a w G = ∀ v, endH m H (a.put h.dst v) w G := rfl
end
end Go.Proofs.YtljglhaeonbfoaaGreatDoor
namespace Go.Proofs.YtljglhaeonbfoaaGreatDoor
open Go.RowKit
end Go.Proofs.YtljglhaeonbfoaaGreatDoor
namespace Go.Proofs.YtljglhaeonbfoaaGreatDoor
open Go.RowKit
section
variable {P : Program} {ops : Array Oper} {F : World → Prop} {wild : Bool}
theorem stable_mem {mem : Bool} {post : Post} (hm : mem = true) (h : ∀ v w (u : Ext), post v w → post v (w.ext u)) : stable F mem post := by
 unfold stable; rw [if_pos hm]; exact fun v w u _ hp => h v w u hp
theorem HeldAt.of {o : Oper} {a : Act} {post : Post} {w : World} (hgd : o.guard = none) (h : heldUpon P F wild post w ((execOp a.eval o).run P w)) : HeldAt P ops F wild o a post w := by
 have hw : Region.wanted o (yielded ops a.tmps) = true := by simp [Region.wanted, hgd]
 unfold HeldAt
 rw [if_pos hw]; exact h
section
variable {an : List (List Nat)} {Ws Ms : List Nat} {Q : Act → World → Prop} {o : Oper} {rest : List Oper} {k : Nat} {a : Act} {H : List HeldP} {w0 : World}
abbrev extF (w0 : World) : World → Prop := fun w' => ∃ u : Ext, w' = w0.ext u
theorem flow_keep0 (post : Post) (hms : (maskOf ops o H).all (! ·) = true) (hst : stable (extF w0) (Ms.contains k) post) (h1 : ∀ u : Ext, HeldAt P ops (extF w0) (Ws.contains k) o a post (w0.ext u))
  (h2 : Flow P ops (extF w0) an Ws Ms Q rest (k + 1) a (H ++ [⟨k, o.dst, post⟩])) : Flow P ops (extF w0) an Ws Ms Q (o :: rest) k a H :=
 flow_held0 post hms hst (fun _ ⟨u, hu⟩ => hu ▸ h1 u) h2
theorem flow_out (ms : List Bool) (c : Value) (hms : maskOf ops o H = ms) (h1 : ∀ u : Ext, useH ms H a (w0.ext u) fun a' => KnownAt P ops o a' c (w0.ext u)) (h2 : Flow P ops (extF w0) an Ws Ms Q rest (k + 1) (a.put o.dst c) H) : Flow P ops (extF w0) an Ws Ms Q (o :: rest) k a H :=
 flow_known_use ms c hms (fun _ ⟨u, hu⟩ => hu ▸ h1 u) h2
theorem flow_done (ms : List Bool) (hms : liveOf an Ws Ms H = ms) (h : ∀ u : Ext, endH ms H a (w0.ext u) fun a' => Q a' (w0.ext u)) : Flow P ops (extF w0) an Ws Ms Q [] k a H :=
 flow_nil ms hms fun _ ⟨u, hu⟩ => hu ▸ h u
end
end
end Go.Proofs.YtljglhaeonbfoaaGreatDoor
namespace Go.Proofs.YtljglhaeonbfoaaGreatDoor
open Go.RowKit
section
variable {P : Program} {ops : Array Oper} {F : World → Prop} {Ws Ms : List Nat} {an : List (List Nat)} {Q : Act → World → Prop}
theorem FlowInv.endL {a0 : Act} {D : Nat → Kind} {listed : Array Bool} {a : Act} {w : World} {n : Nat} {on : Oper} (hn : ops.size = n + 1) (hon : ops[n]? = some on) (hdn : on.dst = none) (ok : FlowOk ops an Ws Ms a0.tmps.size) (I : FlowInv ops F an Ws Ms a0 D listed a w)
  (hfull : ∀ j, j < n → listed.getD j false = true)
  (h : endH (liveOf an Ws Ms (heldD ops D n)) (heldD ops D n) (actD ops a0 D n) w fun a' => Q a' w) : Q a w := by
 have hsz := actD_size (ops := ops) (a0 := a0) (D := D) n
 have hout := endH_out a _ _ _ (by simp [liveOf]) (fun p hp h1 => ?_) h
 ·have hsp := putsFrom_spec a ((heldD ops D n).map (·.dst)) (actD ops a0 D n) (by rw [hsz.1, I.size])
  have : a = putsFrom a ((heldD ops D n).map (·.dst)) (actD ops a0 D n) := by
   refine act_ext (by rw [hsp.1, hsz.1, I.size]) (by rw [hsp.2.1, hsz.2, I.defs]) fun d hd => ?_
   rw [I.size] at hd
   rw [hsp.2.2 d (by rw [hsz.1]; exact hd)]
   split
   ·rfl
   ·rename_i hno
    by_cases hex : ∃ (j : Nat) (oj : Oper), ops[j]? = some oj ∧ oj.dst = some d
    ·obtain ⟨j, oj, hj, hjd⟩ := hex
     have hjs := (Array.getElem?_eq_some_iff.1 hj).1
     have hjn : j < n := by
      rcases Nat.lt_or_ge j n with h | h
      ·exact h
      ·exfalso
       obtain rfl : j = n := by omega
       rw [hon] at hj; cases hj; rw [hdn] at hjd; cases hjd
     cases hDj : D j with
     | inl c =>
      rw [actD_known hd hj hjd hDj (fun i o' hi h' => ok.one j oj d hj hjd i o' hi h') _ hjn]
      obtain ⟨v, hv, hx⟩ := I.got j oj hj (hfull j hjn) (.inl ⟨c, hDj⟩)
      rw [hDj] at hv
      have := hx d hjd
      rw [show v = c from hv] at this
      have hb : d < a.tmps.size := by rw [I.size]; exact hd
      rw [Array.getElem?_eq_getElem hb]
      simp [valOf, hb] at this
      rw [this]
     | inr p =>
      exact absurd (List.mem_map.2 ⟨⟨j, oj.dst, p⟩, (heldD_mem _ _).2 ⟨hjn, oj, hj, rfl, hDj⟩, hjd⟩) hno
    ·rw [actD_other hd _ (fun j oj _ hj hjd => (hex ⟨j, oj, hj, hjd⟩).elim)]
     exact I.out d fun j oj hj _ hjd => hex ⟨j, oj, hj, hjd⟩
  rw [this]; exact hout
 ·obtain ⟨i, hi⟩ := List.mem_iff_getElem?.1 hp
  rw [List.getElem?_zip_eq_some] at hi
  obtain ⟨hi1, hi2⟩ := hi
  have hmem := List.mem_iff_getElem?.2 ⟨i, hi2⟩
  rw [liveOf, List.getElem?_map, hi2] at hi1
  simp only [Option.map_some, Option.some.injEq] at hi1
  obtain ⟨hlt, oj, hj, hjd, hDj⟩ := (heldD_mem _ _).1 hmem
  rw [h1] at hi1
  have hlive : liveAt an Ws Ms D listed p.2.idx := .inr fun hm i hi hli => by
   unfold liveB at hi1
   rw [List.contains_iff_mem.2 hm] at hi1
   simp only [Bool.not_true, Bool.false_or] at hi1
   have := List.all_eq_true.1 hi1 i hi
   simp only [Bool.or_eq_true, beq_iff_eq, List.contains_iff_mem] at this
   rcases this with h | h
   ·exact .inl h
   ·exact .inr h
  obtain ⟨v, hv, hx⟩ := I.got _ oj hj (hfull _ hlt) hlive
  rw [hDj] at hv
  exact ⟨v, hv, fun t ht => hx t (by rw [← hjd]; exact ht)⟩
def lastB (l : List Oper) (on : Oper) : Bool := on.dst.isNone && (List.range l.length).all fun j => ((ancOf (l ++ [on]).toArray).getD l.length []).contains j
abbrev rowF (w0 : World) (row : Option Nat) : World → Prop := fun w' => w0.grownBy w' row
theorem rowF_ext {w0 : World} {row : Option Nat} (w : World) (u : Ext) (h : rowF w0 row w) : rowF w0 row (w.ext u) :=
 ⟨h.os, h.tape, h.output, Nat.le_trans h.size (by rw [size_ext]; omega), fun i hi hne => (ext_block w u i (Nat.lt_of_lt_of_le hi h.size)).trans (h.block i hi hne)⟩
theorem rowF_drew (w0 : World) (row : Option Nat) : rowF w0 row w0.drew := ⟨rfl, rfl, rfl, Nat.le_refl _, fun _ _ _ => rfl⟩
end
end Go.Proofs.YtljglhaeonbfoaaGreatDoor
namespace Go.Proofs.YtljglhaeonbfoaaGreatDoor
open Go.RowKit
section
variable {P : Program} {ops : Array Oper} {F G0 : World → Prop} {Ws Ms : List Nat} {an : List (List Nat)} {Q : Act → World → Prop}
def preB (an : List (List Nat)) (Ws : List Nat) (k : Nat) : Bool := Ws.all fun x => x == k || (an.getD x []).contains k
abbrev At0 (F G0 : World → Prop) (an : List (List Nat)) (Ws : List Nat) (k : Nat) (w : World) : Prop := F w ∧ (preB an Ws k = true → G0 w)
def FlowG (P : Program) (ops : Array Oper) (F G0 : World → Prop) (an : List (List Nat)) (Ws Ms : List Nat) (Q : Act → World → Prop) : List Oper → Nat → Act → List HeldP → Prop
 | [], _, a, H => ∀ w, F w → endH (liveOf an Ws Ms H) H a w fun a' => Q a' w
 | o :: rest, k, a, H =>
  (∃ c, (∀ w, At0 F G0 an Ws k w → useH (maskOf ops o H) H a w fun a' => KnownAt P ops o a' c w) ∧ FlowG P ops F G0 an Ws Ms Q rest (k + 1) (a.put o.dst c) H) ∨
  (∃ post, stable F (Ms.contains k) post ∧ (∀ w, At0 F G0 an Ws k w → useH (maskOf ops o H) H a w fun a' => HeldAt P ops F (Ws.contains k) o a' post w) ∧
   FlowG P ops F G0 an Ws Ms Q rest (k + 1) a (H ++ [⟨k, o.dst, post⟩]))
def stepG (P : Program) (ops : Array Oper) (F G0 : World → Prop) (an : List (List Nat)) (Ws Ms : List Nat) (a0 : Act) (D : Nat → Kind) (k : Nat) (o : Oper) : Prop :=
 match D k with
 | .inl c => ∀ w, At0 F G0 an Ws k w → useH (maskOf ops o (heldD ops D k)) (heldD ops D k) (actD ops a0 D k) w fun a' => KnownAt P ops o a' c w
 | .inr p => stable F (Ms.contains k) p ∧ ∀ w, At0 F G0 an Ws k w → useH (maskOf ops o (heldD ops D k)) (heldD ops D k) (actD ops a0 D k) w fun a' => HeldAt P ops F (Ws.contains k) o a' p w
theorem stepG_congr {a0 : Act} {D D' : Nat → Kind} {k : Nat} {o : Oper} (h : ∀ i, i < k + 1 → D i = D' i) (hs : stepG P ops F G0 an Ws Ms a0 D k o) : stepG P ops F G0 an Ws Ms a0 D' k o := by
 unfold stepG at *
 rw [← h k (by omega), ← actD_congr k (fun i hi => h i (by omega)), ← heldD_congr k (fun i hi => h i (by omega))]
 exact hs
theorem flow_dataG {a0 : Act} : ∀ (rest : List Oper) (k : Nat) (D : Nat → Kind), (∀ j, j < rest.length → ops[k + j]? = rest[j]?) → FlowG P ops F G0 an Ws Ms Q rest k (actD ops a0 D k) (heldD ops D k) →
  ∃ D', (∀ i, i < k → D' i = D i) ∧ (∀ i o, k ≤ i → i < k + rest.length → ops[i]? = some o → stepG P ops F G0 an Ws Ms a0 D' i o) ∧
   ∀ w, F w → endH (liveOf an Ws Ms (heldD ops D' (k + rest.length))) (heldD ops D' (k + rest.length)) (actD ops a0 D' (k + rest.length)) w fun a' => Q a' w
 | [], k, D, hr, h => ⟨D, fun _ _ => rfl, fun i o hi hl ho => by simp at hl; omega, h⟩
 | o :: rest, k, D, hr, h => by
  have ho : ops[k]? = some o := by simpa using hr 0 (by simp)
  have hr' : ∀ j, j < rest.length → ops[k + 1 + j]? = rest[j]? := fun j hj => by
   have := hr (j + 1) (by simp; omega)
   rw [show k + (j + 1) = k + 1 + j by omega] at this
   simpa using this
  have upd : ∀ (K : Kind), ∃ D1 : Nat → Kind, (∀ i, i < k → D1 i = D i) ∧ D1 k = K := fun K => ⟨fun i => if i = k then K else D i, fun i hi => by simp [Nat.ne_of_lt hi], by simp⟩
  rcases h with ⟨c, h1, h2⟩ | ⟨p, hst, h1, h2⟩
  ·obtain ⟨D1, hd, hk⟩ := upd (.inl c)
   have ha : actD ops a0 D1 (k + 1) = (actD ops a0 D k).put o.dst c := by simp only [actD, hk, ho, actD_congr k hd]
   have hH : heldD ops D1 (k + 1) = heldD ops D k := by simp only [heldD, hk, heldD_congr k hd]
   obtain ⟨D2, hd2, hs2, he2⟩ := flow_dataG rest (k + 1) D1 hr' (by rw [ha, hH]; exact h2)
   refine ⟨D2, fun i hi => (hd2 i (by omega)).trans (hd i hi), fun i o' hi hl ho' => ?_, ?_⟩
   ·by_cases e : i = k
    ·subst e
     obtain rfl : o = o' := by rw [ho] at ho'; exact Option.some.inj ho'
     refine stepG_congr (D := D1) (fun j hj => (hd2 j hj).symm) ?_
     unfold stepG; rw [hk, heldD_congr i hd, actD_congr i hd]; exact h1
    ·exact hs2 i o' (by omega) (by simp at hl; omega) ho'
   ·rw [show k + (o :: rest).length = k + 1 + rest.length by simp; omega]; exact he2
  ·obtain ⟨D1, hd, hk⟩ := upd (.inr p)
   have ha : actD ops a0 D1 (k + 1) = actD ops a0 D k := by simp only [actD, hk, actD_congr k hd]
   have hH : heldD ops D1 (k + 1) = heldD ops D k ++ [⟨k, o.dst, p⟩] := by simp only [heldD, hk, ho, heldD_congr k hd]
   obtain ⟨D2, hd2, hs2, he2⟩ := flow_dataG rest (k + 1) D1 hr' (by rw [ha, hH]; exact h2)
   refine ⟨D2, fun i hi => (hd2 i (by omega)).trans (hd i hi), fun i o' hi hl ho' => ?_, ?_⟩
   ·by_cases e : i = k
    ·subst e
     obtain rfl : o = o' := by rw [ho] at ho'; exact Option.some.inj ho'
     refine stepG_congr (D := D1) (fun j hj => (hd2 j hj).symm) ?_
     unfold stepG; rw [hk, heldD_congr i hd, actD_congr i hd]; exact ⟨hst, h1⟩
    ·exact hs2 i o' (by omega) (by simp at hl; omega) ho'
   ·rw [show k + (o :: rest).length = k + 1 + rest.length by simp; omega]; exact he2
def Tame (Ws : List Nat) (G0 : World → Prop) (listed : Array Bool) (w : World) : Prop := (∀ x ∈ Ws, listed.getD x false = false) → G0 w
theorem FlowInv.opG {a0 : Act} {D : Nat → Kind} {listed : Array Bool} {a : Act} {w : World} {k : Nat} {Q' : Exit → Act → World → Prop} (hF : ∀ w (u : Ext), F w → F (w.ext u)) (hG : ∀ w (u : Ext), G0 w → G0 (w.ext u)) (ok : FlowOk ops an Ws Ms a0.tmps.size)
  (hsts : ∀ (j : Nat) (o : Oper), ops[j]? = some o → ∀ p, D j = .inr p → stable F (Ms.contains j) p) (hD : ∀ (o : Oper), ops[k]? = some o → stepG P ops F G0 an Ws Ms a0 D k o) (I : FlowInv ops F an Ws Ms a0 D listed a w) (ht : Tame Ws G0 listed w) (hr : k ∈ Region.ready .any ops listed)
  {K : Act → World → Prop} (hK : ∀ a' w', FlowInv ops F an Ws Ms a0 D (listed.setIfInBounds k true) a' w' → Tame Ws G0 (listed.setIfInBounds k true) w' → K a' w') : wpOp P ops Q' k K a w := by
 obtain ⟨hun, o, ho, _⟩ := mem_ready.1 hr
 have hkl : k < listed.size := by rw [I.lsz]; exact (Array.getElem?_eq_some_iff.1 ho).1
 have at0 : At0 F G0 an Ws k w := ⟨I.hF, fun hp => ht fun x hx => by
  unfold preB at hp
  have := List.all_eq_true.1 hp x hx
  simp only [Bool.or_eq_true, beq_iff_eq, List.contains_iff_mem] at this
  rcases this with rfl | h
  ·exact getD_ff hun
  ·cases hl : listed.getD x false with
   | false => rfl
   | true =>
    have := I.closed x hl k h
    rw [getD_ff hun] at this; cases this⟩
 have go : ∀ v w', onW F (Ws.contains k) w w' → postOf (D k) v w' → K (a.put o.dst v) w' := fun v w' hw hp => by
  refine hK _ _ (I.step ok ho hr (fun c => ?_) hsts hw hp) fun hx => ?_
  ·cases hDk : D k with
   | inl c => exact .inr (by unfold stable; split <;> intros <;> assumption)
   | inr p => exact .inr (hsts k o ho p hDk)
  ·have hnw : Ws.contains k = false := by
    rw [← Bool.not_eq_true, List.contains_iff_mem]
    intro hk
    have := hx k hk
    rw [(getD_set hkl).2 (.inl rfl)] at this; cases this
   obtain ⟨u, rfl⟩ := hw.2 hnw
   refine hG _ u (ht fun x hx' => ?_)
   have := hx x hx'
   cases hl : listed.getD x false with
   | false => rfl
   | true => rw [(getD_set hkl).2 (.inr hl)] at this; cases this
 have self : onW F (Ws.contains k) w w := ⟨I.hF, fun _ => ⟨_, (ext_refl w).choose_spec⟩⟩
 have hs := hD o ho
 unfold stepG at hs
 have sel := Region.noSelect_spec ok.sel k o
 unfold wpOp
 simp only [ho]
 cases hDk : D k with
 | inl c =>
  simp only [hDk] at hs
  obtain ⟨a', hk, hl⟩ := I.looks ok ho hr (hs w at0)
  unfold KnownAt at hk
  rw [← wanted_congr hl, ← execOp_looks (fun cs b => sel cs b ho) hl] at hk
  rw [hDk] at go
  by_cases hw : Region.wanted o (yielded ops a.tmps) = true
  ·rw [if_pos hw] at hk ⊢
   left
   unfold Oper.wp
   generalize (execOp a.eval o).run P w = r at hk
   cases r with
   | ok n w' =>
    cases n <;> simp only [knownUpon] at hk <;> simp only [Oper.upon]
    case value u => obtain ⟨rfl, rfl⟩ := hk; exact go _ _ self rfl
    case skip => obtain ⟨rfl, rfl⟩ := hk; exact go _ _ self rfl
    case enter f args =>
     obtain ⟨rfl, hc⟩ := hk
     refine hc.mono ?_
     rintro e w2 ⟨rfl, u, rfl⟩
     exact go _ _ ⟨hF _ u I.hF, fun _ => ⟨u, rfl⟩⟩ rfl
   | halt x w' => simp only [knownUpon] at hk
  ·rw [if_neg hw] at hk ⊢
   exact go _ _ self hk.symm
 | inr p =>
  simp only [hDk] at hs
  obtain ⟨a', hk, hl⟩ := I.looks ok ho hr (hs.2 w at0)
  unfold HeldAt at hk
  rw [← wanted_congr hl, ← execOp_looks (fun cs b => sel cs b ho) hl] at hk
  rw [hDk] at go
  by_cases hw : Region.wanted o (yielded ops a.tmps) = true
  ·rw [if_pos hw] at hk ⊢
   left
   unfold Oper.wp
   generalize (execOp a.eval o).run P w = r at hk
   cases r with
   | ok n w' =>
    cases n <;> simp only [heldUpon] at hk <;> simp only [Oper.upon]
    case value u => exact go _ _ hk.2 hk.1
    case skip => exact go _ _ hk.2 hk.1
    case enter f args =>
     obtain ⟨rfl, hc⟩ := hk
     refine hc.mono ?_
     rintro e w2 ⟨v, rfl, hp, hon⟩
     exact go _ _ hon hp
   | halt x w' => simp only [heldUpon] at hk
  ·rw [if_neg hw] at hk ⊢
   exact go _ _ self hk
theorem flow_anyG {a0 : Act} {D : Nat → Kind} {Q' : Exit → Act → World → Prop} {n : Nat} {on : Oper} (hn : ops.size = n + 1) (hon : ops[n]? = some on) (hdn : on.dst = none) (hall : ∀ j, j < n → j ∈ an.getD n [])
  (hF : ∀ w (u : Ext), F w → F (w.ext u)) (hG : ∀ w (u : Ext), G0 w → G0 (w.ext u)) (ok : FlowOk ops an Ws Ms a0.tmps.size)
  (hDn : ∃ c, D n = .inl c) (hD : ∀ (i : Nat) (o : Oper), i < n → ops[i]? = some o → stepG P ops F G0 an Ws Ms a0 D i o)
  (hE : ∀ w, F w → endH (liveOf an Ws Ms (heldD ops D n)) (heldD ops D n) (actD ops a0 D n) w fun a' => wpList P ops Q' [on] a' w) :
  ∀ (fuel : Nat) (listed : Array Bool) (a : Act) (w : World), listed.toList.count false ≤ fuel → listed.getD n true = false → FlowInv ops F an Ws Ms a0 D listed a w → Tame Ws G0 listed w → wpAny P .any ops Q' fuel listed a w := by
 have hsts : ∀ (j : Nat) (o : Oper), ops[j]? = some o → ∀ p, D j = .inr p → stable F (Ms.contains j) p := fun j o ho p hp => by
  have hj := (Array.getElem?_eq_some_iff.1 ho).1
  rcases Nat.lt_or_ge j n with h | h
  ·have := hD j o h ho
   unfold stepG at this
   rw [hp] at this
   exact this.1
  ·obtain rfl : j = n := by omega
   obtain ⟨c, hc⟩ := hDn
   rw [hc] at hp; cases hp
 have notnil : ∀ (listed : Array Bool) (a : Act) (w : World), listed.getD n true = false → FlowInv ops F an Ws Ms a0 D listed a w → Region.ready .any ops listed ≠ [] := fun listed a w hl I h => by
  have := I.full ok h n (by omega)
  rw [getD_ff hl] at this; cases this
 intro fuel
 induction fuel with
 | zero =>
  intro listed a w hc hl I _
  exfalso
  have hlt : n < listed.size := by rw [I.lsz]; omega
  simp [hlt] at hl
  have : false ∈ listed.toList := by rw [← hl]; simp
  have := List.count_pos_iff.2 this
  omega
 | succ fuel ih =>
  intro listed a w hc hl I hT
  refine ⟨fun hnil => (notnil listed a w hl I hnil).elim, fun k hk => ?_⟩
  have hkl : k < ops.size := by
   obtain ⟨_, o, ho, _⟩ := mem_ready.1 hk
   exact (Array.getElem?_eq_some_iff.1 ho).1
  rcases Nat.lt_or_ge k n with hkn | hkn
  ·refine I.opG hF hG ok hsts (fun o ho => hD k o hkn ho) hT hk fun a' w' I' hT' => ih _ a' w' ?_ (by rw [getD_set_ne true (by omega)]; exact hl) I' hT'
   have h0 := (mem_ready.1 hk).1
   have hlt : k < listed.size := by rw [I.lsz]; exact hkl
   simp [hlt] at h0
   rw [Array.toList_setIfInBounds]
   have hlt' : k < listed.toList.length := by simpa using hlt
   have hg : listed.toList[k] = false := by simpa using h0
   rw [List.set_eq_take_append_cons_drop]
   rw [if_pos hlt', List.count_append, List.count_cons_of_ne (by simp)]
   have hsplit : listed.toList = listed.toList.take k ++ false :: listed.toList.drop (k + 1) := by
    rw [← hg, List.getElem_cons_drop, List.take_append_drop]
   have := congrArg (List.count false) hsplit
   rw [List.count_append, List.count_cons_self] at this
   omega
  ·obtain rfl : k = n := by omega
   have hfull : ∀ j, j < k → listed.getD j false = true := fun j hj => by
    obtain ⟨_, e, he, hb, hje⟩ := ok.low k on hon j (hall j hj)
    obtain ⟨_, o2, ho2, hall2⟩ := mem_ready.1 hk
    rw [hon] at ho2; cases ho2
    have := hall2 e he hb
    rcases hje with rfl | hje
    ·exact this
    ·exact I.closed _ this j hje
   have hw := I.endL (Q := fun a w => wpList P ops Q' [on] a w) hn hon hdn ok hfull (hE w I.hF)
   have hls : k < listed.size := by rw [I.lsz]; omega
   have hready : Region.ready .any ops (listed.setIfInBounds k true) = [] := by
    rw [List.eq_nil_iff_forall_not_mem]
    intro j hj
    obtain ⟨h0, o, ho, _⟩ := mem_ready.1 hj
    have hj' := (Array.getElem?_eq_some_iff.1 ho).1
    have h1 : (listed.setIfInBounds k true).getD j false = true := by
     rw [getD_set hls]
     rcases Nat.lt_or_ge j k with h | h
     ·exact .inr (hfull j h)
     ·exact .inl (by omega)
    rw [getD_ff h0] at h1; cases h1
   have hwo : wpOp P ops Q' k (wpList P ops Q' []) a w := by unfold wpOp; simp only [hon]; exact hw
   refine wpOp_mono (fun a' w' h' => ?_) hwo
   cases fuel with
   | zero => exact ⟨hready, h'⟩
   | succ f => exact ⟨fun _ => h', fun j hj => by rw [hready] at hj; cases hj⟩
theorem wp_region_row_last {id : Nat} {Q' : Exit → Act → World → Prop} {a : Act} {w : World} {l : List Oper} (row : Option Nat) (Ws Ms : List Nat) {N : Nat} (n : Nat) {on : Oper} (hm : P.follows .mixedOrders = true) (hN : a.tmps.size = N) (hlen : l.length = n + 1) (hon : l[n]? = some on)
  (hB : flowB l.toArray (ancOf l.toArray) Ws Ms N = true) (hL : lastB (l.take n) on = true)
  (h : FlowG P l.toArray (rowF w row) (extF w) (ancOf l.toArray) Ws Ms (fun a w => wpList P l.toArray Q' [on] a w) (l.take n) 0 a []) : (Code.region id l.toArray true).wp P Q' a w := by
 subst hN
 obtain ⟨l1, hl, hn⟩ : ∃ l1, l = l1 ++ [on] ∧ l1.length = n := by
  refine ⟨l.take n, ?_, by rw [List.length_take]; omega⟩
  have h1 := List.take_succ_eq_append_getElem (l := l) (i := n) (by omega)
  rw [List.take_of_length_le (by omega)] at h1
  obtain ⟨h2, h3⟩ := List.getElem?_eq_some_iff.1 hon
  rw [h3] at h1; exact h1
 have ht : l.take n = l1 := by rw [hl, ← hn, List.take_left']; rfl
 rw [ht] at hL h
 subst hl hn
 unfold lastB at hL
 simp only [Bool.and_eq_true, Option.isNone_iff_eq_none] at hL
 obtain ⟨hd, hall⟩ := hL
 have hoff : ∀ j, j < l1.length → (l1 ++ [on]).toArray[0 + j]? = l1[j]? := fun j hj => by
  simp [List.getElem?_append_left hj]
 obtain ⟨D, hD0, hD, hE⟩ := flow_dataG (ops := (l1 ++ [on]).toArray) (a0 := a) l1 0 (fun _ => .inl undef) hoff h
 simp only [Nat.zero_add] at hD hE
 have hsame : ∀ i, i < l1.length → (fun i => if i = l1.length then (.inl undef : Kind) else D i) i = D i := fun i hi => by simp [Nat.ne_of_lt hi]
 have hact := actD_congr (ops := (l1 ++ [on]).toArray) (a0 := a) l1.length hsame
 have hheld := heldD_congr (ops := (l1 ++ [on]).toArray) l1.length hsame
 refine wp_region_any hm (flow_anyG (D := fun i => if i = l1.length then .inl undef else D i) (n := l1.length) (on := on) (by simp) (by simp) hd (fun j hj => by simpa using List.all_eq_true.1 hall j (List.mem_range.2 hj)) (fun w' u h => rowF_ext w' u h) (fun _ u ⟨x, hx⟩ => by rw [hx]; exact ext_ext w x u) (flowOk_of hB) ⟨undef, by simp⟩
  (fun i o hi ho => stepG_congr (D := D) (fun j hj => by simp; omega) (hD i o (by omega) hi ho)) (fun w' hw' => by rw [hact, hheld]; exact hE w' hw') _ _ _ _ ?_ ?_ ?_ ?_)
 ·simp
 ·simp
 ·refine ⟨rowF_drew w row, by simp, rfl, rfl, fun _ _ => rfl, fun k hk => ?_, fun j o ho hj => ?_⟩
  ·simp [Array.getElem?_replicate] at hk; split at hk <;> simp at hk
  ·simp [Array.getElem?_replicate] at hj; split at hj <;> simp at hj
 ·intro _; exact ext_drew w
section
variable {o : Oper} {rest : List Oper} {k : Nat} {a : Act} {H : List HeldP} {w0 : World}
theorem flowG_known (hms : (maskOf ops o H).all (! ·) = true)
  (h : ∀ K : Act → Prop, (∀ a, FlowG P ops F G0 an Ws Ms Q rest (k + 1) a H → K a) → ∃ c, (∀ w, KnownAt P ops o a c w) ∧ K (a.put o.dst c)) : FlowG P ops F G0 an Ws Ms Q (o :: rest) k a H := by
 obtain ⟨c, h1, h2⟩ := h _ fun _ h => h
 exact .inl ⟨c, fun w hw => useH_none (h1 w) _ _ hms, h2⟩
theorem flowG_known0 (hms : (maskOf ops o H).all (! ·) = true) (hp : preB an Ws k = true)
  (h : ∀ K : Act → Prop, (∀ a, FlowG P ops F (extF w0) an Ws Ms Q rest (k + 1) a H → K a) → ∃ c, (∀ u : Ext, KnownAt P ops o a c (w0.ext u)) ∧ K (a.put o.dst c)) : FlowG P ops F (extF w0) an Ws Ms Q (o :: rest) k a H := by
 obtain ⟨c, h1, h2⟩ := h _ fun _ h => h
 exact .inl ⟨c, fun w hw => useH_none (by obtain ⟨u, rfl⟩ := hw.2 hp; exact h1 u) _ _ hms, h2⟩
theorem flowG_keep (ms : List Bool) (post : Post) (hms : maskOf ops o H = ms) (hst : stable F (Ms.contains k) post) (hp : preB an Ws k = true)
  (h1 : ∀ u : Ext, F (w0.ext u) → useH ms H a (w0.ext u) fun a' => HeldAt P ops F (Ws.contains k) o a' post (w0.ext u))
  (h2 : FlowG P ops F (extF w0) an Ws Ms Q rest (k + 1) a (H ++ [⟨k, o.dst, post⟩])) : FlowG P ops F (extF w0) an Ws Ms Q (o :: rest) k a H :=
 .inr ⟨post, hst, fun w hw => hms ▸ (by obtain ⟨u, rfl⟩ := hw.2 hp; exact h1 u hw.1), h2⟩
theorem flowG_done (ms : List Bool) (hms : liveOf an Ws Ms H = ms) (h : ∀ w, F w → endH ms H a w fun a' => Q a' w) : FlowG P ops F G0 an Ws Ms Q [] k a H := fun w hw => hms ▸ h w hw
def PushP {α : Type} [Rep α] (base : Nat) (T : TypeId) (S : Nat → Prop) (row : Option Nat) (B : Nat) (xs : List α) : Post := fun v w => OwnL w base T S v xs ∧ (v.ownBlock = row ∨ ∃ g, v.ownBlock = some g ∧ B ≤ g) ∧ ∀ b, S b → b < w.heap.size
theorem PushP.stable_ {α : Type} [Rep α] {base B : Nat} {T : TypeId} {S : Nat → Prop} {row : Option Nat} {xs : List α} {mem : Bool} (hm : mem = true) : stable F mem (PushP base T S row B xs) :=
 stable_mem hm fun _ _ u ⟨h, h', h''⟩ => ⟨h.ext u, h', fun b hb => by rw [size_ext]; have := h'' b hb; omega⟩
def LitP (T : TypeId) (us : List Value) (m : Nat) : Post := fun v w => ∃ g, v = .slice (some ⟨g, 0, none⟩) m m ∧ w.heap[g]? = some (.cells us.toArray T (0, 0))
theorem LitP.stable_ {T : TypeId} {us : List Value} {m : Nat} {mem : Bool} (hm : mem = true) : stable F mem (LitP T us m) :=
 stable_mem hm fun _ w u ⟨g, h1, h2⟩ => ⟨g, h1, by rw [ext_block w u g (Array.getElem?_eq_some_iff.1 h2).1]; exact h2⟩
theorem LitP.mk_ {w : World} {T : TypeId} {us : List Value} {m g : Nat} (hg : g = w.heap.size) : LitP T us m (.slice (some ⟨g, 0, none⟩) m m) (w.alloc (.cells us.toArray T)) := by
 subst hg; exact ⟨_, rfl, heap_alloc_new w _⟩
theorem onW_row_alloc {w0 w : World} {row : Option Nat} {o : Obj} {b : Bool} (h : rowF w0 row w) : onW (rowF w0 row) b w (w.alloc o) := by
 obtain ⟨x, hx⟩ := ext_alloc w o
 exact ⟨by rw [hx]; exact rowF_ext w x h, fun _ => ⟨x, hx⟩⟩
theorem HeldAt.push_own {α : Type} [Rep α] {w : World} (hgd : o.guard = none) (s x : Operand) (t : TypeId)
  (ho : o.op = .call { callee := .builtin .append, args := #[s, x], argTypes := #[t, t] }) (base : Nat) (T : TypeId) (i : TypeInfo) (z : Value) (bytes : Nat) (ht : P.underlying t = some (.slice T)) (hi : P.info? T = some i) (hz : i.zero = some z)
  (hsize : i.size = Rep.size α) (hby : i.bytes = bytes) (hzs : z.cells.size = Rep.size α) (hsz : 0 < Rep.size α)
  (S S' : Nat → Prop) (v : Value) (xs : List α) (y : α) (us : List Value) (T' : TypeId) (hs : a.eval s = v) (hown : OwnL w base T S v xs) {v1 : Value} (hx : a.eval x = v1) (hr1 : LitP T' us 1 v1 w) (hr : Rep.is w S' y us)
  (hSS : ∀ b, S b → S' b) (hap : ∀ g, v.ownBlock = some g → ¬ S' g) (hnew : ∀ b, S' b → b < w.heap.size)
  (hlen : (xs.length + 1) * bytes ≤ 140737488355328) (hlen' : xs.length + 1 ≤ 9223372036854775807) (hbase : base ≤ w.heap.size) (hw : w0.grownBy w v.ownBlock) : HeldAt P ops (rowF w0 v.ownBlock) true o a (PushP base T S' v.ownBlock w0.heap.size (xs ++ [y])) w := by
 refine HeldAt.of hgd ?_
 obtain ⟨g, rfl, hg⟩ := hr1
 have hlaid : ∀ j u, us[j]? = some u → w.cell? ((⟨g, 0, none⟩ : Addr).add j) = some u := by
  intro j u hj
  have hadd : (⟨g, 0, none⟩ : Addr).add j = ⟨g, j, none⟩ := by unfold Addr.add; split <;> simp_all
  rw [hadd, cell_of_row w g _ _ T' (0, 0) hg]; simpa using hj
 obtain ⟨vals, hrow, hrep, hapart⟩ := hown
 obtain ⟨v', w', hrun, h2, h3, _, h5⟩ := run_append_own_at (P := P) w base t o.type T i z (Rep.size α) bytes ht hi hz hsize hby hzs hsz v xs.length vals hrow ⟨g, 0, none⟩ 1 1 us (by rw [Rep.len hr, Nat.one_mul]) hlaid (Rep.one hr) (by unfold maxLen; omega) hlen hbase
 unfold execOp
 simp only [ho, resolve, invoke, builtin, Sem.run_bind, Sem.run_pure, Result.andThen_ok, List.map_toArray, List.map_cons, List.map_nil, hs, hx, hrun]
 have hh : OwnL w' base T S' v' (xs ++ [y]) := by
  refine ⟨vals ++ us, by rw [List.length_append]; exact h2, ?_, ?_⟩
  ·refine RepL.keep (w := w) (RepL.append (hrep.more fun b _ hb => hSS b hb) (RepL.single hr)) h3.size fun b hb hlt => h3.block b hlt fun e => hap b e.symm hb
  ·intro k hk hS
   rcases h5 with e | e
   ·rw [e] at hk; exact hap k hk hS
   ·rw [e] at hk; injection hk with hk; subst hk; exact absurd (hnew _ hS) (by omega)
 refine ⟨⟨hh, ?_, fun b hb => Nat.lt_of_lt_of_le (hnew b hb) h3.size⟩, hw.trans h3, fun h => by cases h⟩
 rcases h5 with h5 | h5
 ·exact .inl h5
 ·exact .inr ⟨_, h5, hw.size⟩
end
end
end Go.Proofs.YtljglhaeonbfoaaGreatDoor
