/- Slices of the call's own: made at a length; written, a cell at a time. Regions that draw their order and make memory: each operation is shown once, from what the operations that it reads have left. -/
import Derived.Test.YtbppamjogdjfkaaOwn
import Derived.Laws.MakeOwn
import Derived.Test.YtbppamjogdjfkaaBase
set_option linter.unusedSimpArgs false
set_option linter.unusedVariables false
namespace Go.Proofs.Ytbppamjogdjfkaa
open Go.RowKit

section
variable {α : Type} [Rep α] {w w' : World} {S S' : Nat → Prop} {xs ys : List α} {vs us : List Value} {x y : α}
theorem RepL.set1 {i j : Nat} {v : Value} (h : RepL w S xs vs) (hx : xs[i]? = some x) (hj : j < Rep.size α) (hy : ∀ us, Rep.is w S x us → Rep.is w S y (us.set j v)) : RepL w S (xs.set i y) (vs.set (i * Rep.size α + j) v) := by
  induction xs generalizing vs i with
  | nil => simp at hx
  | cons z l ih =>
    obtain ⟨us, ts, rfl, h1, h2⟩ := h
    have hl := Rep.len h1
    cases i with
    | zero =>
      simp at hx; subst hx
      refine ⟨us.set j v, ts, ?_, hy us h1, h2⟩
      rw [Nat.zero_mul, Nat.zero_add, List.set_append_left _ _ (by omega)]
    | succ i =>
      simp at hx
      refine ⟨us, ts.set (i * Rep.size α + j) v, ?_, h1, ih h2 hx⟩
      rw [List.set_append_right _ _ (by rw [hl, Nat.add_mul]; omega), hl]
      rw [show (i + 1) * Rep.size α + j - Rep.size α = i * Rep.size α + j by rw [Nat.add_mul]; omega]
theorem RepL.same {x : α} (n : Nat) {us : List Value} (h : Rep.is w S x us) : RepL w S (List.replicate n x) (List.replicate n us).flatten := by
  induction n with
  | zero => rfl
  | succ n ih => exact ⟨us, _, by simp [List.replicate_succ], h, ih⟩
theorem flat_get {β : Type} {z : List β} {k : Nat} (hk : z.length = k) (hp : 0 < k) : ∀ (n i : Nat), i < n * k → (List.replicate n z).flatten[i]? = z[i % k]?
  | 0, i, h => by omega
  | n + 1, i, h => by
    rw [List.replicate_succ, List.flatten_cons]
    by_cases hi : i < k
    · rw [List.getElem?_append_left (by omega), Nat.mod_eq_of_lt hi]
    · rw [List.getElem?_append_right (by omega), hk, flat_get hk hp n (i - k) (by rw [Nat.add_mul] at h; omega)]
      rw [show i % k = (i - k) % k by rw [← Nat.mod_eq_sub_mod (by omega)]]
theorem made_flat (z : Array Value) (n k : Nat) (hz : z.size = k) (hk : 0 < k) : (madeCells z (n * k)).toList = (List.replicate n z.toList).flatten := by
  apply List.ext_getElem?
  intro i
  have hfl : ((List.replicate n z.toList).flatten).length = n * k := by rw [List.length_flatten]; simp [hz]
  by_cases hi : i < n * k
  · rw [flat_get (by simpa using hz) hk n i hi]
    have hm : i % k < z.size := by rw [hz]; exact Nat.mod_lt _ hk
    have : i % z.size < z.size := by rw [hz]; rw [hz] at hm; exact hm
    simp only [madeCells, Array.toList_map, List.getElem?_map, Array.toList_range, List.getElem?_range hi, Option.map_some]
    rw [hz, getElem!_pos z (i % k) hm]
    simp [hm]
  · rw [List.getElem?_eq_none (by simp [size_madeCells]; omega), List.getElem?_eq_none (by omega)]
variable {base : Nat} {T : TypeId} {g n c : Nat}
theorem OwnL.form_at (h : OwnL w base T S (.slice (some ⟨g, 0, none⟩) n c) xs) : xs.length = n ∧ n ≤ c ∧ c ≤ maxLen ∧ base ≤ g ∧ g < w.heap.size ∧ ¬ S g ∧ ∃ cur, w.heap[g]? = some (.cells cur T (0, 0)) ∧ cur.size = c * Rep.size α ∧ RepL w S xs (cur.toList.take (n * Rep.size α)) := by
  obtain ⟨vals, ⟨h1, h⟩, hr, ha⟩ := h
  rcases h with ⟨e, h0⟩ | ⟨g', cap, cur, e, hg, hh, hnc, hcm, hsz, htake⟩
  · cases e
  · injection e with e1 e2 e3
    simp only [Option.some.injEq, Addr.mk.injEq, and_true, true_and] at e1
    subst e1 e2 e3
    exact ⟨rfl, hnc, hcm, hg, (Array.getElem?_eq_some_iff.1 hh).1, ha g rfl, cur, hh, hsz, by rw [htake]; exact hr⟩
theorem OwnL.of_block {cur : Array Value} (h1 : xs.length = n) (h2 : n ≤ c) (h3 : c ≤ maxLen) (h4 : base ≤ g) (h5 : ¬ S g) (h6 : w.heap[g]? = some (.cells cur T (0, 0))) (h7 : cur.size = c * Rep.size α) (h8 : RepL w S xs (cur.toList.take (n * Rep.size α))) :
    OwnL w base T S (.slice (some ⟨g, 0, none⟩) n c) xs := by
  refine ⟨cur.toList.take (n * Rep.size α), ⟨?_, .inr ⟨g, c, cur, by rw [h1], h4, h6, by omega, h3, h7, by rw [h1]⟩⟩, h8, fun k hk => ?_⟩
  · rw [List.length_take, h1, Nat.min_eq_left]; rw [Array.length_toList, h7]; exact Nat.mul_le_mul_right _ h2
  · simp only [Value.ownBlock, Option.some.injEq] at hk; subst hk; exact h5
/-- One cell of an element is written. -/
theorem OwnL.set {i j : Nat} {v : Value} (h : OwnL w base T S (.slice (some ⟨g, 0, none⟩) n c) xs) (hx : xs[i]? = some x) (hj : j < Rep.size α) (hy : ∀ us, Rep.is w S x us → Rep.is w S y (us.set j v)) :
    OwnL (w.setCell ⟨g, i * Rep.size α + j, none⟩ v) base T S (.slice (some ⟨g, 0, none⟩) n c) (xs.set i y) := by
  obtain ⟨h1, h2, h3, h4, hg, h5, cur, h6, h7, h8⟩ := h.form_at
  have hi : i < n := by rw [← h1]; exact (List.getElem?_eq_some_iff.1 hx).1
  refine OwnL.of_block (cur := cur.setIfInBounds (i * Rep.size α + j) v) (by simpa using h1) h2 h3 h4 h5 ?_ (by simpa using h7) ?_
  · show ((w.heap.modify g _)[g]?) = _
    rw [Array.getElem?_modify, if_pos rfl, h6]; rfl
  · have hk := RepL.keep (w' := w.setCell ⟨g, i * Rep.size α + j, none⟩ v) (h8.set1 hx hj hy) (by simp) fun b hb _ => Below.heap_setCell w _ v b (fun e => h5 (by rw [← show b = g from e]; exact hb))
    rw [Array.toList_setIfInBounds, List.take_set]
    exact hk
theorem OwnL.cell_at {i : Nat} (h : OwnL w base T S (.slice (some ⟨g, 0, none⟩) n c) xs) (hx : xs[i]? = some x) : ∃ us, Rep.is w S x us ∧ (∀ j u, us[j]? = some u → w.cell? ⟨g, i * Rep.size α + j, none⟩ = some u) ∧ ∀ j, w.frozen? ⟨g, j, none⟩ = false := by
  obtain ⟨h1, h2, h3, h4, hg, h5, cur, h6, h7, h8⟩ := h.form_at
  obtain ⟨us, hu, hc⟩ := h8.at_ hx
  refine ⟨us, hu, fun j u hj => ?_, fun j => ?_⟩
  · have := hc j u hj
    rw [List.getElem?_take] at this
    split at this
    · simp only [World.cell?, h6, Option.isSome_none, Bool.false_eq_true, if_false]
      rw [← Array.getElem?_toList]; exact this
    · cases this
  · simp [World.frozen?, h6]
/-- make, at a length. -/
theorem OwnL.made {z : Array Value} (hz : z.size = Rep.size α) (hp : 0 < Rep.size α) (hx : Rep.is w S x z.toList) (hn : n ≤ maxLen) (hb : base ≤ w.heap.size) (hS : ¬ S w.heap.size) (hg : g = w.heap.size) :
    OwnL (w.alloc (.cells (madeCells z (n * Rep.size α)) T)) base T S (.slice (some ⟨g, 0, none⟩) n n) (List.replicate n x) := by
  subst hg
  refine OwnL.of_block (cur := madeCells z (n * Rep.size α)) (by simp) (Nat.le_refl _) hn hb hS (heap_alloc_new w _) (size_madeCells _ _) ?_
  rw [List.take_of_length_le (by simp [size_madeCells]), made_flat z n _ hz hp]
  exact (RepL.same n hx).keep (by simp) fun b _ hb => Below.heap_alloc w _ b hb
end
end Go.Proofs.Ytbppamjogdjfkaa
set_option linter.unusedSimpArgs false
set_option linter.unusedVariables false
namespace Go.Proofs.Ytbppamjogdjfkaa
open Go.RowKit

/-! ### The table of what must come ahead -/
def ancOf (ops : Array Oper) : List (List Nat) :=
  ops.toList.foldl (fun acc o => acc ++ [(o.after.toList.filter (Region.binds .any)).foldl (fun l e =>
    (acc.getD e.on []).foldl (fun l j => if l.contains j then l else j :: l) (if l.contains e.on then l else e.on :: l)) []]) []
def flowOp (ops : Array Oper) (an : List (List Nat)) (k : Nat) (o : Oper) : Bool :=
  (an.getD k []).all (fun j => decide (j < k) && o.after.any fun e => Region.binds .any e && (e.on == j || (an.getD e.on []).contains j)) &&
  o.after.all (fun e => !Region.binds .any e || decide (e.on < k)) &&
  (List.range ops.size).all fun j => match (ops[j]?).bind (·.dst) with | none => true | some d => !(o.looksAt ops).contains d || (an.getD k []).contains j || (an.getD j []).contains k
def flowB (ops : Array Oper) (an : List (List Nat)) (Ws Ms : List Nat) (N : Nat) : Bool :=
  Region.noSelect ops &&
  (List.range ops.size).all (fun k => match ops[k]? with
    | none => true
    | some o => flowOp ops an k o && (match o.dst with | none => true | some d => decide (d < N) && (List.range ops.size).all fun j => j == k || (ops[j]?).bind (·.dst) != some d)) &&
  Ws.all fun k => Ms.all fun j => j == k || (an.getD j []).contains k ||
    (List.range ops.size).all fun i => i == k || (an.getD k []).contains i || match ops[i]?, (ops[j]?).bind (·.dst) with
      | some o, some d => !(o.looksAt ops).contains d
      | _, _ => true
def liveB (an : List (List Nat)) (Ws Ms : List Nat) (j : Nat) : Bool := !Ms.contains j || Ws.all fun k => k == j || (an.getD j []).contains k

/-! ### What is held of an operation -/
abbrev Post := Value → World → Prop
structure HeldP where
  idx : Nat
  dst : Option Tmp
  post : Post
def valOf (a : Act) : Option Tmp → Value
  | none => undef
  | some d => a.tmps.getD d undef
def useH : List Bool → List HeldP → Act → World → (Act → Prop) → Prop
  | true :: ms, h :: hs, a, w, G => ∀ v, h.post v w → useH ms hs (a.put h.dst v) w G
  | false :: ms, _ :: hs, a, w, G => useH ms hs a w G
  | _, _, a, _, G => G a
def endH : List Bool → List HeldP → Act → World → (Act → Prop) → Prop
  | true :: ms, h :: hs, a, w, G => ∀ v, h.post v w → endH ms hs (a.put h.dst v) w G
  | false :: ms, h :: hs, a, w, G => ∀ v, endH ms hs (a.put h.dst v) w G
  | _, _, a, _, G => G a
def knownUpon (P : Program) (c : Value) (w : World) : Result Next → Prop
  | .ok (.value u) w' => w' = w ∧ u = c
  | .ok .skip w' => w' = w ∧ c = undef
  | .ok (.enter f args) w' => w' = w ∧ Calls P f args w (RetX c w)
  | _ => False
def KnownAt (P : Program) (ops : Array Oper) (o : Oper) (a : Act) (c : Value) (w : World) : Prop :=
  if Region.wanted o (yielded ops a.tmps) = true then knownUpon P c w ((execOp a.eval o).run P w) else c = undef
/-- How the world may go on. -/
def onW (F : World → Prop) (wild : Bool) (w w' : World) : Prop := F w' ∧ (wild = false → ∃ u : Ext, w' = w.ext u)
def RetH (F : World → Prop) (wild : Bool) (post : Post) (w : World) (e : Ending) (w' : World) : Prop := ∃ v, e = .returned v ∧ post v w' ∧ onW F wild w w'
def heldUpon (P : Program) (F : World → Prop) (wild : Bool) (post : Post) (w : World) : Result Next → Prop
  | .ok (.value u) w' => post u w' ∧ onW F wild w w'
  | .ok .skip w' => post undef w' ∧ onW F wild w w'
  | .ok (.enter f args) w' => w' = w ∧ Calls P f args w (RetH F wild post w)
  | _ => False
def HeldAt (P : Program) (ops : Array Oper) (F : World → Prop) (wild : Bool) (o : Oper) (a : Act) (post : Post) (w : World) : Prop :=
  if Region.wanted o (yielded ops a.tmps) = true then heldUpon P F wild post w ((execOp a.eval o).run P w) else post undef w
def maskOf (ops : Array Oper) (o : Oper) (H : List HeldP) : List Bool := H.map fun h => match h.dst with | none => false | some d => (o.looksAt ops).contains d
def liveOf (an : List (List Nat)) (Ws Ms : List Nat) (H : List HeldP) : List Bool := H.map fun h => liveB an Ws Ms h.idx
def stable (F : World → Prop) (mem : Bool) (post : Post) : Prop := if mem = true then ∀ v w (u : Ext), F w → post v w → post v (w.ext u) else ∀ v w w', post v w → post v w'

section
variable {P : Program} {ops : Array Oper} {F : World → Prop} {Ws Ms : List Nat} {an : List (List Nat)} {Q : Act → World → Prop}

/-- THE WALK, in the list's order. -/
def Flow (P : Program) (ops : Array Oper) (F : World → Prop) (an : List (List Nat)) (Ws Ms : List Nat) (Q : Act → World → Prop) : List Oper → Nat → Act → List HeldP → Prop
  | [], _, a, H => ∀ w, F w → endH (liveOf an Ws Ms H) H a w fun a' => Q a' w
  | o :: rest, k, a, H =>
    (∃ c, (∀ w, F w → useH (maskOf ops o H) H a w fun a' => KnownAt P ops o a' c w) ∧ Flow P ops F an Ws Ms Q rest (k + 1) (a.put o.dst c) H) ∨
    (∃ post, stable F (Ms.contains k) post ∧ (∀ w, F w → useH (maskOf ops o H) H a w fun a' => HeldAt P ops F (Ws.contains k) o a' post w) ∧
      Flow P ops F an Ws Ms Q rest (k + 1) a (H ++ [⟨k, o.dst, post⟩]))

abbrev Kind := Value ⊕ Post
def postOf : Kind → Post
  | .inl c => fun v _ => v = c
  | .inr p => p
def actD (ops : Array Oper) (a0 : Act) (D : Nat → Kind) : Nat → Act
  | 0 => a0
  | k + 1 => match D k, ops[k]? with
    | .inl c, some o => (actD ops a0 D k).put o.dst c
    | _, _ => actD ops a0 D k
def heldD (ops : Array Oper) (D : Nat → Kind) : Nat → List HeldP
  | 0 => []
  | k + 1 => match D k, ops[k]? with
    | .inr p, some o => heldD ops D k ++ [⟨k, o.dst, p⟩]
    | _, _ => heldD ops D k
def stepD (P : Program) (ops : Array Oper) (F : World → Prop) (Ws Ms : List Nat) (a0 : Act) (D : Nat → Kind) (k : Nat) (o : Oper) : Prop :=
  match D k with
  | .inl c => ∀ w, F w → useH (maskOf ops o (heldD ops D k)) (heldD ops D k) (actD ops a0 D k) w fun a' => KnownAt P ops o a' c w
  | .inr p => stable F (Ms.contains k) p ∧ ∀ w, F w → useH (maskOf ops o (heldD ops D k)) (heldD ops D k) (actD ops a0 D k) w fun a' => HeldAt P ops F (Ws.contains k) o a' p w

theorem actD_congr {a0 : Act} {D D' : Nat → Kind} : ∀ k, (∀ i, i < k → D i = D' i) → actD ops a0 D k = actD ops a0 D' k
  | 0, _ => rfl
  | k + 1, h => by simp only [actD, h k (by omega), actD_congr k (fun i hi => h i (by omega))]
theorem heldD_congr {D D' : Nat → Kind} : ∀ k, (∀ i, i < k → D i = D' i) → heldD ops D k = heldD ops D' k
  | 0, _ => rfl
  | k + 1, h => by simp only [heldD, h k (by omega), heldD_congr k (fun i hi => h i (by omega))]
theorem stepD_congr {a0 : Act} {D D' : Nat → Kind} {k : Nat} {o : Oper} (h : ∀ i, i < k + 1 → D i = D' i) (hs : stepD P ops F Ws Ms a0 D k o) : stepD P ops F Ws Ms a0 D' k o := by
  unfold stepD at *
  rw [← h k (by omega), ← actD_congr k (fun i hi => h i (by omega)), ← heldD_congr k (fun i hi => h i (by omega))]
  exact hs

theorem flow_data {a0 : Act} : ∀ (rest : List Oper) (k : Nat) (D : Nat → Kind), ops.toList.drop k = rest → Flow P ops F an Ws Ms Q rest k (actD ops a0 D k) (heldD ops D k) →
    ∃ D', (∀ i, i < k → D' i = D i) ∧ (∀ i o, k ≤ i → ops[i]? = some o → stepD P ops F Ws Ms a0 D' i o) ∧
      ∀ w, F w → endH (liveOf an Ws Ms (heldD ops D' (k + rest.length))) (heldD ops D' (k + rest.length)) (actD ops a0 D' (k + rest.length)) w fun a' => Q a' w
  | [], k, D, hr, h => ⟨D, fun _ _ => rfl, fun i o hi ho => by
      have h1 : ops.size ≤ k := by simpa using hr
      have h2 := (Array.getElem?_eq_some_iff.1 ho).1
      omega, h⟩
  | o :: rest, k, D, hr, h => by
    have ho : ops[k]? = some o := by
      have := congrArg (·[0]?) hr
      simpa using this
    have hr' : ops.toList.drop (k + 1) = rest := by
      have := congrArg List.tail hr
      simpa [List.tail_drop] using this
    have upd : ∀ (K : Kind), ∃ D1 : Nat → Kind, (∀ i, i < k → D1 i = D i) ∧ D1 k = K := fun K => ⟨fun i => if i = k then K else D i, fun i hi => by simp [Nat.ne_of_lt hi], by simp⟩
    rcases h with ⟨c, h1, h2⟩ | ⟨p, hst, h1, h2⟩
    · obtain ⟨D1, hd, hk⟩ := upd (.inl c)
      have ha : actD ops a0 D1 (k + 1) = (actD ops a0 D k).put o.dst c := by simp only [actD, hk, ho, actD_congr k hd]
      have hH : heldD ops D1 (k + 1) = heldD ops D k := by simp only [heldD, hk, heldD_congr k hd]
      obtain ⟨D2, hd2, hs2, he2⟩ := flow_data rest (k + 1) D1 hr' (by rw [ha, hH]; exact h2)
      refine ⟨D2, fun i hi => (hd2 i (by omega)).trans (hd i hi), fun i o' hi ho' => ?_, ?_⟩
      · by_cases e : i = k
        · subst e
          obtain rfl : o = o' := by rw [ho] at ho'; exact Option.some.inj ho'
          refine stepD_congr (D := D1) (fun j hj => (hd2 j hj).symm) ?_
          unfold stepD; rw [hk, heldD_congr i hd, actD_congr i hd]; exact h1
        · exact hs2 i o' (by omega) ho'
      · rw [show k + (o :: rest).length = k + 1 + rest.length by simp; omega]; exact he2
    · obtain ⟨D1, hd, hk⟩ := upd (.inr p)
      have ha : actD ops a0 D1 (k + 1) = actD ops a0 D k := by simp only [actD, hk, actD_congr k hd]
      have hH : heldD ops D1 (k + 1) = heldD ops D k ++ [⟨k, o.dst, p⟩] := by simp only [heldD, hk, ho, heldD_congr k hd]
      obtain ⟨D2, hd2, hs2, he2⟩ := flow_data rest (k + 1) D1 hr' (by rw [ha, hH]; exact h2)
      refine ⟨D2, fun i hi => (hd2 i (by omega)).trans (hd i hi), fun i o' hi ho' => ?_, ?_⟩
      · by_cases e : i = k
        · subst e
          obtain rfl : o = o' := by rw [ho] at ho'; exact Option.some.inj ho'
          refine stepD_congr (D := D1) (fun j hj => (hd2 j hj).symm) ?_
          unfold stepD; rw [hk, heldD_congr i hd, actD_congr i hd]; exact ⟨hst, h1⟩
        · exact hs2 i o' (by omega) ho'
      · rw [show k + (o :: rest).length = k + 1 + rest.length by simp; omega]; exact he2

/-! ### Slots -/
def putsFrom (s : Act) (l : List (Option Tmp)) (a : Act) : Act := l.foldl (fun a d => a.put d (valOf s d)) a
theorem put_size (a : Act) (d : Option Tmp) (v : Value) : (a.put d v).tmps.size = a.tmps.size := by cases d <;> simp [Act.put]
theorem put_def (a : Act) (d : Option Tmp) (v : Value) : (a.put d v).defers = a.defers := by cases d <;> simp [Act.put]
theorem put_get (a : Act) (d : Option Tmp) (v : Value) (t : Tmp) (ht : t < a.tmps.size) : (a.put d v).tmps[t]? = if d = some t then some v else a.tmps[t]? := by
  cases d with
  | none => simp [Act.put]
  | some d =>
    by_cases e : d = t
    · subst e; simp [Act.put, ht]
    · simp [Act.put, Array.getElem?_setIfInBounds_ne e, e]
theorem putsFrom_spec (s : Act) : ∀ (l : List (Option Tmp)) (a : Act), s.tmps.size = a.tmps.size → (putsFrom s l a).tmps.size = a.tmps.size ∧ (putsFrom s l a).defers = a.defers ∧
    ∀ t, t < a.tmps.size → (putsFrom s l a).tmps[t]? = if some t ∈ l then s.tmps[t]? else a.tmps[t]?
  | [], a, _ => ⟨rfl, rfl, fun t _ => by simp [putsFrom]⟩
  | d :: l, a, hs => by
    obtain ⟨h1, h2, h3⟩ := putsFrom_spec s l (a.put d (valOf s d)) (by rw [put_size]; exact hs)
    refine ⟨h1.trans (put_size ..), h2.trans (put_def ..), fun t ht => ?_⟩
    show (putsFrom s l (a.put d (valOf s d))).tmps[t]? = _
    rw [h3 t (by rw [put_size]; exact ht), put_get _ _ _ _ ht]
    by_cases hm : some t ∈ l
    · simp [hm]
    · by_cases e : d = some t
      · subst e
        have : t < s.tmps.size := by omega
        simp [hm, valOf, this]
      · have : some t ≠ d := fun h => e h.symm
        simp [hm, e, this]
theorem act_ext {a b : Act} (hs : a.tmps.size = b.tmps.size) (hd : a.defers = b.defers) (h : ∀ t, t < a.tmps.size → a.tmps[t]? = b.tmps[t]?) : a = b := by
  obtain ⟨ta, da⟩ := a; obtain ⟨tb, db⟩ := b
  simp only at hs hd h
  subst hd
  congr 1
  refine Array.ext_getElem? fun i => ?_
  by_cases hi : i < ta.size
  · exact h i hi
  · rw [Array.getElem?_eq_none (by omega), Array.getElem?_eq_none (by omega)]
theorem put_val (s a : Act) {d : Option Tmp} {v : Value} (h : ∀ t, d = some t → v = valOf s (some t)) : a.put d v = a.put d (valOf s d) := by
  cases d with
  | none => rfl
  | some t => rw [h t rfl]
/-- What 's' says of an operation. -/
def says (s : Act) (p : HeldP) (w : World) : Prop := ∃ v, p.post v w ∧ ∀ t, p.dst = some t → v = valOf s (some t)
theorem useH_out (s : Act) {w : World} {G : Act → Prop} : ∀ (ms : List Bool) (H : List HeldP) (a : Act), ms.length = H.length → (∀ p ∈ ms.zip H, p.1 = true → says s p.2 w) → useH ms H a w G →
    G (putsFrom s ((ms.zip H).filterMap fun p => if p.1 then some p.2.dst else none) a)
  | [], [], a, _, _, h => h
  | true :: ms, p :: H, a, hl, hp, h => by
    obtain ⟨v, hv, he⟩ := hp (true, p) (by simp) rfl
    have := useH_out s ms H (a.put p.dst v) (by simpa using hl) (fun q hq => hp q (by simp [hq])) (h _ hv)
    rw [put_val s a he] at this
    simpa [putsFrom] using this
  | false :: ms, p :: H, a, hl, hp, h => by
    have := useH_out s ms H a (by simpa using hl) (fun q hq => hp q (by simp [hq])) h
    simpa [putsFrom] using this
theorem endH_out (s : Act) {w : World} {G : Act → Prop} : ∀ (ms : List Bool) (H : List HeldP) (a : Act), ms.length = H.length → (∀ p ∈ ms.zip H, p.1 = true → says s p.2 w) → endH ms H a w G →
    G (putsFrom s (H.map (·.dst)) a)
  | [], [], a, _, _, h => h
  | true :: ms, p :: H, a, hl, hp, h => by
    obtain ⟨v, hv, he⟩ := hp (true, p) (by simp) rfl
    have := endH_out s ms H (a.put p.dst v) (by simpa using hl) (fun q hq => hp q (by simp [hq])) (h _ hv)
    rw [put_val s a he] at this
    simpa [putsFrom] using this
  | false :: ms, p :: H, a, hl, hp, h => by
    have := endH_out s ms H (a.put p.dst (valOf s p.dst)) (by simpa using hl) (fun q hq => hp q (by simp [hq])) (h _)
    simpa [putsFrom] using this

theorem actD_size {a0 : Act} {D : Nat → Kind} : ∀ k, (actD ops a0 D k).tmps.size = a0.tmps.size ∧ (actD ops a0 D k).defers = a0.defers
  | 0 => ⟨rfl, rfl⟩
  | k + 1 => by
    have := actD_size (a0 := a0) (D := D) k
    unfold actD
    split
    · rw [put_size, put_def]; exact this
    · exact this
theorem actD_other {a0 : Act} {D : Nat → Kind} {t : Tmp} (ht : t < a0.tmps.size) : ∀ k, (∀ j o, j < k → ops[j]? = some o → o.dst = some t → ∀ c, D j ≠ .inl c) → (actD ops a0 D k).tmps[t]? = a0.tmps[t]?
  | 0, _ => rfl
  | k + 1, h => by
    have ih := actD_other ht k (fun j o hj => h j o (by omega))
    unfold actD
    split
    · rename_i c o hd ho
      rw [put_get _ _ _ _ (by rw [(actD_size k).1]; exact ht), if_neg (fun e => h k o (by omega) ho e c hd)]
      exact ih
    · exact ih
theorem actD_known {a0 : Act} {D : Nat → Kind} {t : Tmp} {j : Nat} {o : Oper} {c : Value} (ht : t < a0.tmps.size) (ho : ops[j]? = some o) (hd : o.dst = some t) (hD : D j = .inl c)
    (hn : ∀ i o', ops[i]? = some o' → o'.dst = some t → i = j) : ∀ k, j < k → (actD ops a0 D k).tmps[t]? = some c
  | 0, h => by omega
  | k + 1, h => by
    unfold actD
    by_cases e : j = k
    · subst e
      simp only [hD, ho]
      rw [put_get _ _ _ _ (by rw [(actD_size j).1]; exact ht), if_pos hd]
    · have ih := actD_known ht ho hd hD hn k (by omega)
      split
      · rename_i c' o' hd' ho'
        rw [put_get _ _ _ _ (by rw [(actD_size k).1]; exact ht), if_neg (fun h => e (hn k o' ho' h).symm)]
        exact ih
      · exact ih
theorem heldD_mem {D : Nat → Kind} : ∀ k (h : HeldP), h ∈ heldD ops D k ↔ h.idx < k ∧ ∃ o, ops[h.idx]? = some o ∧ h.dst = o.dst ∧ D h.idx = .inr h.post
  | 0, h => by simp [heldD]
  | k + 1, h => by
    have ih := heldD_mem (D := D) k h
    unfold heldD
    split
    · rename_i p o hD ho
      rw [List.mem_append, ih, List.mem_singleton]
      constructor
      · rintro (⟨h1, h2⟩ | rfl)
        · exact ⟨by omega, h2⟩
        · exact ⟨by simp, o, ho, rfl, hD⟩
      · rintro ⟨h1, o', h2, h3, h4⟩
        by_cases e : h.idx = k
        · right
          obtain ⟨i, d, q⟩ := h
          simp only at e h2 h3 h4
          subst e
          rw [ho] at h2; rw [hD] at h4
          cases h2; cases h4; rw [h3]
        · exact .inl ⟨by omega, o', h2, h3, h4⟩
    · rename_i hno
      rw [ih]
      constructor
      · rintro ⟨h1, h2⟩; exact ⟨by omega, h2⟩
      · rintro ⟨h1, o', h2, h3, h4⟩
        refine ⟨?_, o', h2, h3, h4⟩
        rcases Nat.lt_or_ge h.idx k with h' | h'
        · exact h'
        · have e : h.idx = k := by omega
          rw [e] at h2 h4
          exact (hno _ _ h4 h2).elim
end
end Go.Proofs.Ytbppamjogdjfkaa
