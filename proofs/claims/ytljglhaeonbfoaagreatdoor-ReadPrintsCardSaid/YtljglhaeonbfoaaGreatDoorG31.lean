/- Regions that draw their order, in which one operation makes a variable that later ones write and read: what it is, is chosen as it comes up. Regions that draw their order, in which some operations write, one behind the other: what stands behind each of them is said; the law. -/
import Derived.Test.YtljglhaeonbfoaaGreatDoorG3
import Derived.Test.YtljglhaeonbfoaaGreatDoorG30
set_option linter.unusedSimpArgs false
set_option linter.unusedVariables false
namespace Go.Proofs.YtljglhaeonbfoaaGreatDoor
open Go.RowKit
section
variable {P : Program} {ops : Array Oper} {F : World → Prop} {Ws Ms : List Nat} {an : List (List Nat)} {Q : Act → World → Prop}
theorem ready_lt {listed : Array Bool} {k : Nat} (hk : k ∈ Region.ready .any ops listed) : k < listed.size ∧ listed.getD k false = false := by
 have h0 := (mem_ready.1 hk).1
 refine ⟨?_, getD_ff h0⟩
 rcases Nat.lt_or_ge k listed.size with h | h
 ·exact h
 ·simp [Array.getElem?_eq_none h] at h0
theorem count_set {listed : Array Bool} {k fuel : Nat} (hk : k ∈ Region.ready .any ops listed) (hc : listed.toList.count false ≤ fuel + 1) : (listed.setIfInBounds k true).toList.count false ≤ fuel := by
 have h0 := (mem_ready.1 hk).1
 have hlt := (ready_lt hk).1
 simp [hlt] at h0
 rw [Array.toList_setIfInBounds]
 have hlt' : k < listed.toList.length := by simpa using hlt
 have hg : listed.toList[k] = false := by simpa using h0
 rw [List.set_eq_take_append_cons_drop]
 rw [if_pos hlt', List.count_append, List.count_cons_of_ne (by simp)]
 have hsplit : listed.toList = listed.toList.take k ++ false :: listed.toList.drop (k + 1) := by
  rw [← hg, List.getElem_cons_drop, List.take_append_drop]
 have := congrArg (List.count false) hsplit
 rw [List.count_append, List.count_cons_self] at this
 omega
theorem ready_none {listed : Array Bool} (hc : listed.toList.count false ≤ 0) : Region.ready .any ops listed = [] := by
 rw [List.eq_nil_iff_forall_not_mem]
 intro k hk
 have h0 := (mem_ready.1 hk).1
 have hlt := (ready_lt hk).1
 simp [hlt] at h0
 have : false ∈ listed.toList := by rw [← h0]; simp
 have := List.count_pos_iff.2 this
 omega
end
end Go.Proofs.YtljglhaeonbfoaaGreatDoor
namespace Go.Proofs.YtljglhaeonbfoaaGreatDoor
open Go.RowKit
section
variable {P : Program} {ops : Array Oper} {an : List (List Nat)} {Xs : List Nat} {St : Nat → World → Prop} {Q : Act → World → Prop}
def okSt (an : List (List Nat)) (Xs : List Nat) (k i : Nat) : Bool :=
 (List.range Xs.length).all fun j => (!(an.getD k []).contains (Xs.getD j 0) || decide (j < i)) && (!(Xs.getD j 0 == k || (an.getD (Xs.getD j 0) []).contains k) || decide (i ≤ j))
def chainB (an : List (List Nat)) (Xs : List Nat) : Bool := (List.range Xs.length).all fun j => (List.range j).all fun i => (an.getD (Xs.getD j 0) []).contains (Xs.getD i 0)
def stageI (Xs : List Nat) (St : Nat → World → Prop) (listed : Array Bool) (w : World) : Prop := ∃ i, i ≤ Xs.length ∧ (∀ j, j < Xs.length → (listed.getD (Xs.getD j 0) false = true ↔ j < i)) ∧ St i w
def HeldC (P : Program) (ops : Array Oper) (G : World → Prop) (wild : Bool) (o : Oper) (a : Act) (post : Post) (w : World) : Prop :=
 if Region.wanted o (yielded ops a.tmps) = true then heldUpon P G wild post w ((execOp a.eval o).run P w) else post undef w ∧ G w
def FlowC (P : Program) (ops : Array Oper) (St : Nat → World → Prop) (an : List (List Nat)) (Xs : List Nat) (Q : Act → World → Prop) : List Oper → Nat → Act → List HeldP → Prop
 | [], _, a, H => ∀ w, St Xs.length w → endH (liveOf an Xs [] H) H a w fun a' => Q a' w
 | o :: rest, k, a, H =>
  (Xs.contains k = false ∧ ∃ c, (∀ i w, i ≤ Xs.length → okSt an Xs k i = true → St i w → useH (maskOf ops o H) H a w fun a' => KnownAt P ops o a' c w) ∧ FlowC P ops St an Xs Q rest (k + 1) (a.put o.dst c) H) ∨
  (∃ post : Post, (∀ v w w', post v w → post v w') ∧ (∀ i w, i ≤ Xs.length → okSt an Xs k i = true → St i w → useH (maskOf ops o H) H a w fun a' => HeldC P ops (fun w' => Xs.contains k = true → St (i + 1) w') (Xs.contains k) o a' post w) ∧
   FlowC P ops St an Xs Q rest (k + 1) a (H ++ [⟨k, o.dst, post⟩]))
def stepC (P : Program) (ops : Array Oper) (St : Nat → World → Prop) (an : List (List Nat)) (Xs : List Nat) (a0 : Act) (D : Nat → Kind) (k : Nat) (o : Oper) : Prop :=
 match D k with
 | .inl c => Xs.contains k = false ∧ ∀ i w, i ≤ Xs.length → okSt an Xs k i = true → St i w → useH (maskOf ops o (heldD ops D k)) (heldD ops D k) (actD ops a0 D k) w fun a' => KnownAt P ops o a' c w
 | .inr p => (∀ v w w', p v w → p v w') ∧ ∀ i w, i ≤ Xs.length → okSt an Xs k i = true → St i w → useH (maskOf ops o (heldD ops D k)) (heldD ops D k) (actD ops a0 D k) w fun a' => HeldC P ops (fun w' => Xs.contains k = true → St (i + 1) w') (Xs.contains k) o a' p w
attribute [go_sem] HeldC
theorem stepC_congr {a0 : Act} {D D' : Nat → Kind} {k : Nat} {o : Oper} (h : ∀ i, i < k + 1 → D i = D' i) (hs : stepC P ops St an Xs a0 D k o) : stepC P ops St an Xs a0 D' k o := by
 unfold stepC at *
 rw [← h k (by omega), ← actD_congr k (fun i hi => h i (by omega)), ← heldD_congr k (fun i hi => h i (by omega))]
 exact hs
theorem flow_dataC {a0 : Act} : ∀ (rest : List Oper) (k : Nat) (D : Nat → Kind), ops.toList.drop k = rest → FlowC P ops St an Xs Q rest k (actD ops a0 D k) (heldD ops D k) →
  ∃ D', (∀ i, i < k → D' i = D i) ∧ (∀ i o, k ≤ i → ops[i]? = some o → stepC P ops St an Xs a0 D' i o) ∧
   ∀ w, St Xs.length w → endH (liveOf an Xs [] (heldD ops D' (k + rest.length))) (heldD ops D' (k + rest.length)) (actD ops a0 D' (k + rest.length)) w fun a' => Q a' w
 | [], k, D, hr, h => ⟨D, fun _ _ => rfl, fun i o hi ho => by
   have h1 : ops.size ≤ k := by simpa using hr
   have h2 := (Array.getElem?_eq_some_iff.1 ho).1
   omega, h⟩
 | o :: rest, k, D, hr, h => by
  have ho : ops[k]? = some o := by
   have := congrArg (·[0]?) hr
   simpa using this
  have hr' : ops.toList.drop (k + 1) = rest := by
   have := congrArg List.tail hr
   simpa [List.tail_drop] using this
  have upd : ∀ (K : Kind), ∃ D1 : Nat → Kind, (∀ i, i < k → D1 i = D i) ∧ D1 k = K := fun K => ⟨fun i => if i = k then K else D i, fun i hi => by simp [Nat.ne_of_lt hi], by simp⟩
  rcases h with ⟨hx, c, h1, h2⟩ | ⟨p, hst, h1, h2⟩
  ·obtain ⟨D1, hd, hk⟩ := upd (.inl c)
   have ha : actD ops a0 D1 (k + 1) = (actD ops a0 D k).put o.dst c := by simp only [actD, hk, ho, actD_congr k hd]
   have hH : heldD ops D1 (k + 1) = heldD ops D k := by simp only [heldD, hk, heldD_congr k hd]
   obtain ⟨D2, hd2, hs2, he2⟩ := flow_dataC rest (k + 1) D1 hr' (by rw [ha, hH]; exact h2)
   refine ⟨D2, fun i hi => (hd2 i (by omega)).trans (hd i hi), fun i o' hi ho' => ?_, ?_⟩
   ·by_cases e : i = k
    ·subst e
     obtain rfl : o = o' := by rw [ho] at ho'; exact Option.some.inj ho'
     refine stepC_congr (D := D1) (fun j hj => (hd2 j hj).symm) ?_
     unfold stepC; rw [hk, heldD_congr i hd, actD_congr i hd]; exact ⟨hx, h1⟩
    ·exact hs2 i o' (by omega) ho'
   ·rw [show k + (o :: rest).length = k + 1 + rest.length by simp; omega]; exact he2
  ·obtain ⟨D1, hd, hk⟩ := upd (.inr p)
   have ha : actD ops a0 D1 (k + 1) = actD ops a0 D k := by simp only [actD, hk, actD_congr k hd]
   have hH : heldD ops D1 (k + 1) = heldD ops D k ++ [⟨k, o.dst, p⟩] := by simp only [heldD, hk, ho, heldD_congr k hd]
   obtain ⟨D2, hd2, hs2, he2⟩ := flow_dataC rest (k + 1) D1 hr' (by rw [ha, hH]; exact h2)
   refine ⟨D2, fun i hi => (hd2 i (by omega)).trans (hd i hi), fun i o' hi ho' => ?_, ?_⟩
   ·by_cases e : i = k
    ·subst e
     obtain rfl : o = o' := by rw [ho] at ho'; exact Option.some.inj ho'
     refine stepC_congr (D := D1) (fun j hj => (hd2 j hj).symm) ?_
     unfold stepC; rw [hk, heldD_congr i hd, actD_congr i hd]; exact ⟨hst, h1⟩
    ·exact hs2 i o' (by omega) ho'
   ·rw [show k + (o :: rest).length = k + 1 + rest.length by simp; omega]; exact he2
abbrev anyW : World → Prop := fun _ => True
theorem FlowInv.opC {a0 : Act} {D : Nat → Kind} {listed : Array Bool} {a : Act} {w : World} {k : Nat} {Q' : Exit → Act → World → Prop} (hSt : ∀ i w (u : Ext), St i w → St i (w.ext u)) (hch : chainB an Xs = true) (ok : FlowOk ops an Xs [] a0.tmps.size) (hXl : ∀ x ∈ Xs, x < ops.size)
  (hD : ∀ (k : Nat) (o : Oper), ops[k]? = some o → stepC P ops St an Xs a0 D k o) (I : FlowInv ops anyW an Xs [] a0 D listed a w) (ht : stageI Xs St listed w) (hr : k ∈ Region.ready .any ops listed)
  {K : Act → World → Prop} (hK : ∀ a' w', FlowInv ops anyW an Xs [] a0 D (listed.setIfInBounds k true) a' w' → stageI Xs St (listed.setIfInBounds k true) w' → K a' w') : wpOp P ops Q' k K a w := by
 obtain ⟨hun, o, ho, hall⟩ := mem_ready.1 hr
 have hkl : k < listed.size := by rw [I.lsz]; exact (Array.getElem?_eq_some_iff.1 ho).1
 obtain ⟨i, hi, hli, hS⟩ := ht
 have hunf := getD_ff hun
 have hanc : ∀ j ∈ an.getD k [], listed.getD j false = true := fun j hj => by
  obtain ⟨_, e, he, hb, hj'⟩ := ok.low k o ho j hj
  have := hall e he hb
  rcases hj' with rfl | hj'
  ·exact this
  ·exact I.closed _ this j hj'
 have hpre : ∀ j, j < Xs.length → (Xs.getD j 0 = k ∨ k ∈ an.getD (Xs.getD j 0) []) → i ≤ j := fun j hj h => by
  rcases Nat.lt_or_ge j i with h1 | h1
  ·exfalso
   have hl := (hli j hj).2 h1
   rcases h with h | h
   ·rw [h, hunf] at hl; cases hl
   ·have := I.closed _ hl k h
    rw [hunf] at this; cases this
  ·exact h1
 have hok : okSt an Xs k i = true := by
  unfold okSt
  rw [List.all_eq_true]
  intro j hj
  have hj := List.mem_range.1 hj
  simp only [Bool.and_eq_true, Bool.or_eq_true, Bool.not_eq_true', decide_eq_true_eq, beq_iff_eq]
  constructor
  ·cases hc : (an.getD k []).contains (Xs.getD j 0) with
   | false => exact .inl rfl
   | true => exact .inr ((hli j hj).1 (hanc _ (List.contains_iff_mem.1 hc)))
  ·cases hc : (Xs.getD j 0 == k || (an.getD (Xs.getD j 0) []).contains k) with
   | false => exact .inl rfl
   | true =>
    refine .inr (hpre j hj ?_)
    simp only [Bool.or_eq_true, beq_iff_eq, List.contains_iff_mem] at hc
    exact hc
 have hsts : ∀ (j : Nat) (o : Oper), ops[j]? = some o → ∀ p, D j = .inr p → stable anyW (([] : List Nat).contains j) p := fun j o ho p hp => by
  have := hD j o ho
  unfold stepC at this
  rw [hp] at this
  unfold stable
  rw [if_neg (by simp)]
  exact this.1
 have chain : ∀ i j, i < j → j < Xs.length → Xs.getD i 0 ∈ an.getD (Xs.getD j 0) [] := fun i j hij hj => by
  unfold chainB at hch
  have h1 := List.all_eq_true.1 hch j (List.mem_range.2 hj)
  have h2 := List.all_eq_true.1 h1 i (List.mem_range.2 hij)
  exact List.contains_iff_mem.1 h2
 have getX : ∀ j, j < Xs.length → Xs.getD j 0 ∈ Xs := fun j hj => by
  rw [List.getD_eq_getElem?_getD, List.getElem?_eq_getElem hj]; simp
 have uniq : ∀ i j, i < Xs.length → j < Xs.length → Xs.getD i 0 = Xs.getD j 0 → i = j := by
  have one : ∀ i j, i < j → j < Xs.length → Xs.getD i 0 ≠ Xs.getD j 0 := fun i j hij hj e => by
   have h1 := chain i j hij hj
   have hx := hXl _ (getX j hj)
   have h2 := (ok.low (Xs.getD j 0) ops[Xs.getD j 0] (Array.getElem?_eq_getElem hx) _ h1).1
   omega
  intro i j hi hj e
  rcases Nat.lt_trichotomy i j with h | h | h
  ·exact absurd e (one i j h hj)
  ·exact h
  ·exact absurd e.symm (one j i h hi)
 have go : ∀ v w', (Xs.contains k = false → ∃ u : Ext, w' = w.ext u) → (Xs.contains k = true → St (i + 1) w') → postOf (D k) v w' → K (a.put o.dst v) w' := fun v w' hw hw2 hp => by
  refine hK _ _ (I.step ok ho hr (fun c => ?_) hsts ⟨trivial, hw⟩ hp) ?_
  ·cases hDk : D k with
   | inl c => exact .inr (by unfold stable; split <;> intros <;> assumption)
   | inr p => exact .inr (hsts k o ho p hDk)
  ·cases hc : Xs.contains k with
   | false =>
    obtain ⟨u, rfl⟩ := hw hc
    refine ⟨i, hi, fun j hj => ?_, hSt i w u hS⟩
    rw [getD_set hkl, ← hli j hj]
    constructor
    ·rintro (h | h)
     ·exfalso
      have hm := getX j hj
      rw [h, ← List.contains_iff_mem, hc] at hm; cases hm
     ·exact h
    ·exact .inr
   | true =>
    obtain ⟨j0, hj0, hx0⟩ : ∃ j0, j0 < Xs.length ∧ Xs.getD j0 0 = k := by
     obtain ⟨j0, hj0, h⟩ := List.mem_iff_getElem.1 (List.contains_iff_mem.1 hc)
     exact ⟨j0, hj0, by rw [List.getD_eq_getElem?_getD, List.getElem?_eq_getElem hj0]; exact h⟩
    have h1 : i ≤ j0 := hpre j0 hj0 (.inl hx0)
    have h2 : j0 ≤ i := by
     rcases Nat.lt_or_ge i j0 with h | h
     ·exfalso
      have := hanc (Xs.getD i 0) (hx0 ▸ chain i j0 h hj0)
      have := (hli i (by omega)).1 this
      omega
     ·exact h
    obtain rfl : j0 = i := by omega
    refine ⟨j0 + 1, by omega, fun j hj => ?_, hw2 hc⟩
    rw [getD_set hkl, hli j hj]
    constructor
    ·rintro (h | h)
     ·have := uniq j j0 hj hj0 (h.trans hx0.symm); omega
     ·omega
    ·intro h
     rcases Nat.lt_or_ge j j0 with h' | h'
     ·exact .inr h'
     ·obtain rfl : j = j0 := by omega
      exact .inl hx0
 have hs := hD k o ho
 unfold stepC at hs
 have sel := Region.noSelect_spec ok.sel k o
 unfold wpOp
 simp only [ho]
 cases hDk : D k with
 | inl c =>
  simp only [hDk] at hs
  obtain ⟨hx, hs⟩ := hs
  have self : ∀ w' : World, w' = w → Xs.contains k = false → ∃ u : Ext, w' = w.ext u := fun w' e _ => e ▸ ext_refl w
  have nox : ∀ w', Xs.contains k = true → St (i + 1) w' := fun w' h => by rw [hx] at h; cases h
  obtain ⟨a', hk, hl⟩ := I.looks ok ho hr (hs i w hi hok hS)
  unfold KnownAt at hk
  rw [← wanted_congr hl, ← execOp_looks (fun cs b => sel cs b ho) hl] at hk
  rw [hDk] at go
  by_cases hw : Region.wanted o (yielded ops a.tmps) = true
  ·rw [if_pos hw] at hk ⊢
   left
   unfold Oper.wp
   generalize (execOp a.eval o).run P w = r at hk
   cases r with
   | ok n w' =>
    cases n <;> simp only [knownUpon] at hk <;> simp only [Oper.upon]
    case value u => obtain ⟨rfl, rfl⟩ := hk; exact go _ _ (self _ rfl) (nox _) rfl
    case skip => obtain ⟨rfl, rfl⟩ := hk; exact go _ _ (self _ rfl) (nox _) rfl
    case enter f args =>
     obtain ⟨rfl, hc⟩ := hk
     refine hc.mono ?_
     rintro e w2 ⟨rfl, u, rfl⟩
     exact go _ _ (fun _ => ⟨u, rfl⟩) (nox _) rfl
   | halt x w' => simp only [knownUpon] at hk
  ·rw [if_neg hw] at hk ⊢
   exact go _ _ (self _ rfl) (nox _) hk.symm
 | inr p =>
  simp only [hDk] at hs
  obtain ⟨a', hk, hl⟩ := I.looks ok ho hr (hs.2 i w hi hok hS)
  unfold HeldC at hk
  rw [← wanted_congr hl, ← execOp_looks (fun cs b => sel cs b ho) hl] at hk
  rw [hDk] at go
  by_cases hw : Region.wanted o (yielded ops a.tmps) = true
  ·rw [if_pos hw] at hk ⊢
   left
   unfold Oper.wp
   generalize (execOp a.eval o).run P w = r at hk
   cases r with
   | ok n w' =>
    cases n <;> simp only [heldUpon] at hk <;> simp only [Oper.upon]
    case value u => exact go _ _ hk.2.2 hk.2.1 hk.1
    case skip => exact go _ _ hk.2.2 hk.2.1 hk.1
    case enter f args =>
     obtain ⟨rfl, hc⟩ := hk
     refine hc.mono ?_
     rintro e w2 ⟨v, rfl, hp, hon⟩
     exact go _ _ hon.2 hon.1 hp
   | halt x w' => simp only [heldUpon] at hk
  ·rw [if_neg hw] at hk ⊢
   exact go _ _ (fun _ => ext_refl w) hk.2 hk.1
theorem flow_anyC {a0 : Act} {D : Nat → Kind} {Q' : Exit → Act → World → Prop} (hSt : ∀ i w (u : Ext), St i w → St i (w.ext u)) (hch : chainB an Xs = true) (ok : FlowOk ops an Xs [] a0.tmps.size) (hXl : ∀ x ∈ Xs, x < ops.size)
  (hD : ∀ (k : Nat) (o : Oper), ops[k]? = some o → stepC P ops St an Xs a0 D k o)
  (hE : ∀ w, St Xs.length w → endH (liveOf an Xs [] (heldD ops D ops.size)) (heldD ops D ops.size) (actD ops a0 D ops.size) w fun a' => Q' .normal a' w) :
  ∀ (fuel : Nat) (listed : Array Bool) (a : Act) (w : World), listed.toList.count false ≤ fuel → FlowInv ops anyW an Xs [] a0 D listed a w → stageI Xs St listed w → wpAny P .any ops Q' fuel listed a w := by
 have last : ∀ (listed : Array Bool) (a : Act) (w : World), FlowInv ops anyW an Xs [] a0 D listed a w → stageI Xs St listed w → Region.ready .any ops listed = [] → St Xs.length w := fun listed a w I ⟨i, hi, hli, hS⟩ hn => by
  have hfull := I.full ok hn
  rcases Nat.lt_or_ge i Xs.length with h | h
  ·exfalso
   have := (hli i h).1 (hfull _ (hXl _ (by rw [List.getD_eq_getElem?_getD, List.getElem?_eq_getElem h]; simp)))
   omega
  ·obtain rfl : i = Xs.length := by omega
   exact hS
 intro fuel
 induction fuel with
 | zero => exact fun listed a w hc I hI => ⟨ready_none hc, I.end_ (Q := fun a w => Q' .normal a w) ok (ready_none hc) (hE w (last _ _ _ I hI (ready_none hc)))⟩
 | succ fuel ih =>
  intro listed a w hc I hI
  refine ⟨fun hnil => I.end_ (Q := fun a w => Q' .normal a w) ok hnil (hE w (last _ _ _ I hI hnil)), fun k hk => ?_⟩
  exact I.opC hSt hch ok hXl hD hI hk fun a' w' I' hI' => ih _ a' w' (count_set hk hc) I' hI'
theorem wp_region_chain {id : Nat} {Q' : Exit → Act → World → Prop} {a : Act} {w : World} {l : List Oper} (St : Nat → World → Prop) (Xs : List Nat) (an : List (List Nat)) {N : Nat} (hm : P.follows .mixedOrders = true) (hN : a.tmps.size = N)
  (hB : flowB l.toArray an Xs [] N = true) (hch : chainB an Xs = true) (hX : Xs.all (fun x => decide (x < l.length)) = true) (hSt : ∀ i w (u : Ext), St i w → St i (w.ext u)) (h0 : St 0 w.drew)
  (h : FlowC P l.toArray St an Xs (fun a w => Q' .normal a w) l 0 a []) : (Code.region id l.toArray true).wp P Q' a w := by
 subst hN
 obtain ⟨D, hD0, hD, hE⟩ := flow_dataC (ops := l.toArray) (a0 := a) l 0 (fun _ => .inl undef) (by simp) h
 simp only [Nat.zero_add] at hE
 refine wp_region_any hm (flow_anyC (D := D) hSt hch (flowOk_of hB) (fun x hx => by have := List.all_eq_true.1 hX x hx; simpa using this) (fun k o ho => hD k o (Nat.zero_le _) ho) (fun w' hw' => by have := hE w' hw'; rw [show l.toArray.size = l.length by simp]; exact this) _ _ _ _ ?_ ?_ ?_)
 ·simp
 ·refine ⟨trivial, by simp, rfl, rfl, fun _ _ => rfl, fun k hk => ?_, fun j o ho hj => ?_⟩
  ·simp [Array.getElem?_replicate] at hk; split at hk <;> simp at hk
  ·simp [Array.getElem?_replicate] at hj; split at hj <;> simp at hj
 ·refine ⟨0, Nat.zero_le _, fun j hj => ?_, h0⟩
  constructor
  ·intro h
   simp [Array.getElem?_replicate] at h
   split at h <;> simp at h
  ·intro h; omega
section
variable {o : Oper} {rest : List Oper} {k : Nat} {a : Act} {H : List HeldP}
theorem flowC_known (hx : Xs.contains k = false) (hms : (maskOf ops o H).all (! ·) = true)
  (h : ∀ K : Act → Prop, (∀ a, FlowC P ops St an Xs Q rest (k + 1) a H → K a) → ∃ c, (∀ i w, St i w → KnownAt P ops o a c w) ∧ K (a.put o.dst c)) : FlowC P ops St an Xs Q (o :: rest) k a H := by
 obtain ⟨c, h1, h2⟩ := h _ fun _ h => h
 exact .inl ⟨hx, c, fun i w _ _ hw => useH_none (h1 i w hw) _ _ hms, h2⟩
theorem flowC_use (ms : List Bool) (c : Value) (hx : Xs.contains k = false) (hms : maskOf ops o H = ms)
  (h1 : ∀ i w, St i w → useH ms H a w fun a' => KnownAt P ops o a' c w) (h2 : FlowC P ops St an Xs Q rest (k + 1) (a.put o.dst c) H) : FlowC P ops St an Xs Q (o :: rest) k a H :=
 .inl ⟨hx, c, fun i w _ _ hw => hms ▸ h1 i w hw, h2⟩
theorem flowC_write (ms : List Bool) (i0 : Nat) (post : Value → Prop) (hx : Xs.contains k = true) (hi : ((List.range (Xs.length + 1)).all fun i => !okSt an Xs k i || i == i0) = true) (hms : maskOf ops o H = ms)
  (h1 : ∀ w, St i0 w → useH ms H a w fun a' => HeldC P ops (St (i0 + 1)) true o a' (fun v _ => post v) w)
  (h2 : FlowC P ops St an Xs Q rest (k + 1) a (H ++ [⟨k, o.dst, fun v _ => post v⟩])) : FlowC P ops St an Xs Q (o :: rest) k a H := by
 refine .inr ⟨fun v _ => post v, fun _ _ _ h => h, fun i w hil hok hw => hms ▸ ?_, h2⟩
 have h3 := List.all_eq_true.1 hi i (List.mem_range.2 (by omega))
 simp only [hok, Bool.not_true, Bool.false_or, beq_iff_eq] at h3
 subst h3
 have e : (fun w' => Xs.contains k = true → St (i + 1) w') = St (i + 1) := by
  funext w'; rw [hx]; exact propext ⟨fun h => h rfl, fun h _ => h⟩
 rw [e, hx]
 exact h1 w hw
theorem flowC_done (ms : List Bool) (hms : liveOf an Xs [] H = ms) (h : ∀ w, St Xs.length w → endH ms H a w fun a' => Q a' w) : FlowC P ops St an Xs Q [] k a H := fun w hw => hms ▸ h w hw
end
end
end Go.Proofs.YtljglhaeonbfoaaGreatDoor
