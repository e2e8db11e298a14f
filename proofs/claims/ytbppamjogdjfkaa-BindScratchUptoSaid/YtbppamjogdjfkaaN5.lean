/- Regions that draw their order, in a round of a range over a function. Regions that draw their order, in which one operation writes what those ahead of it read, and whose last operation waits for all others: the law. Regions that draw their order, in a round of a range over a function, one of whose operations writes a row. -/
import Derived.Test.YtbppamjogdjfkaaFlow4
import Derived.RangeFuncNested
import Derived.RangeFuncBound
import Derived.RangeFuncCalls
import Derived.RangeFuncLeaves
import Derived.OrdersIn
set_option linter.unusedSimpArgs false
set_option linter.unusedVariables false
namespace Go.Proofs.Ytbppamjogdjfkaa
open Go.RowKit

section
variable {P : Program} {l n : Nat}
def noDefer (ops : Array Oper) : Bool := ops.all fun o => match o.op with | .defer _ => false | _ => true
theorem noDefer_at {ops : Array Oper} (h : noDefer ops = true) {i : Nat} {o : Oper} (ho : ops[i]? = some o) : ∀ c, o.op ≠ .defer c := by
  intro c hc
  obtain ⟨hi, rfl⟩ := Array.getElem?_eq_some_iff.1 ho
  have := Array.all_eq_true.1 h i hi
  rw [hc] at this
  cases this
theorem Oper.wp_round {o : Oper} {a : Act} {w : World} {K : Act → World → Prop} {Q1 Q2 : Exit → Act → World → Prop} (hd : ∀ c, o.op ≠ .defer c) (hq : ∀ e a w, Q1 e a w → Q2 e a w)
    (h : o.wp P a w K Q1) : o.wpIn (Fence.wide.inRound l) n P a w K Q2 := by
  refine ⟨fun _ _ => trivial, ?_⟩
  rw [Oper.semAt_eq _ _ _ hd]
  unfold Oper.wp at h
  generalize (execOp a.eval o).run P w = r at h ⊢
  match r, h with
  | .ok (.value v) w', h => exact h
  | .ok .skip w', h => exact h
  | .ok (.defer d) w', h => exact h
  | .ok (.enter f args) w', h =>
    refine ⟨fun h => (by cases h), CallsIn.inRound l (callsIn_wide.2 (h.mono ?_))⟩
    intro e w'' he
    match e, he with
    | .returned v, he => exact he
    | .panicked chain, he => exact hq _ _ _ he
    | .outgrown, he => obtain ⟨a, w, he⟩ := he; exact ⟨a, w, hq _ _ _ he⟩
  | .ok (.row row args) w', h =>
    refine ⟨fun h => (by cases h), fun c cs _ => ?_⟩
    obtain ⟨v, w', r, s⟩ := h c cs
    exact ⟨v, w', r, stepsIn_wide.2 s⟩
  | .ok (.round _ _ _ _ _) w', h => exact h.elim
  | .halt (.panic v) w', h => exact hq _ _ _ h
theorem any_round {md : Region.Mode} {ops : Array Oper} {Q1 Q2 : Exit → Act → World → Prop} (hops : noDefer ops = true) (hq : ∀ e a w, Q1 e a w → Q2 e a w) (hn : ¬ LetsOut Q1) :
    ∀ (fuel : Nat) (listed : Array Bool) (a : Act) (w : World), wpAny P md ops Q1 fuel listed a w → wpAnyIn (Fence.wide.inRound l) n P md ops Q2 fuel listed a w
  | 0, listed, a, w, h => ⟨h.1, hq _ _ _ h.2⟩
  | fuel + 1, listed, a, w, h => by
    refine ⟨fun hr => hq _ _ _ (h.1 hr), fun i hi => ?_⟩
    have h2 := h.2 i hi
    unfold wpOp at h2
    unfold wpOpIn
    split
    · rename_i ho
      simp only [ho] at h2
      exact any_round hops hq hn fuel _ _ _ h2
    · rename_i o ho
      simp only [ho] at h2
      split
      · rename_i hw
        rw [if_pos hw] at h2
        rcases h2 with h2 | h2
        · exact Oper.wp_round (noDefer_at hops ho) hq (Oper.wp_mono (fun a w => any_round hops hq hn fuel _ a w) h2)
        · exact (hn h2.2).elim
      · rename_i hw
        rw [if_neg hw] at h2
        exact ⟨fun _ _ => trivial, any_round hops hq hn fuel _ _ _ h2⟩
/-- A region in a round, that leaves in its order alone. -/
abbrev normQ (Q : Exit → Act → World → Prop) : Exit → Act → World → Prop := fun e a w => e = .normal ∧ Q e a w
theorem region_round {id : Nat} {ops : Array Oper} {Q : Exit → Act → World → Prop} {a : Act} {w : World} (hm : P.follows .mixedOrders = true) (hops : noDefer ops = true)
    (h : wpAny P .any ops (normQ Q) ops.size (Array.replicate ops.size false) a { w with drawn := w.drawn + 1 }) : (Code.region id ops true).wpIn (Fence.wide.inRound l) n P Q a w :=
  wpIn_region_any hm (any_round hops (fun _ _ _ h => h.2) (fun ⟨_, _, h⟩ => by cases h.1) _ _ _ _ h)
/-- **THE LAW**, as any region's; the last operation is done behind all others. -/
theorem any_flow_last {Q' : Exit → Act → World → Prop} {a : Act} {w : World} {l : List Oper} {F : World → Prop} {Ws Ms : List Nat} {N n : Nat} {on : Oper} (hN : a.tmps.size = N) (hlen : l.length = n + 1) (hon : l[n]? = some on)
    (hB : flowB l.toArray (ancOf l.toArray) Ws Ms N = true) (hL : lastB (l.take n) on = true) (hF0 : F w.drew) (hF : ∀ w (u : Ext), F w → F (w.ext u))
    (h : Flow P l.toArray F (ancOf l.toArray) Ws Ms (fun a w => wpList P l.toArray Q' [on] a w) (l.take n) 0 a []) : wpAny P .any l.toArray Q' l.toArray.size (Array.replicate l.toArray.size false) a { w with drawn := w.drawn + 1 } := by
  subst hN
  obtain ⟨l1, hl, hn⟩ : ∃ l1, l = l1 ++ [on] ∧ l1.length = n := by
    refine ⟨l.take n, ?_, by rw [List.length_take]; omega⟩
    have h1 := List.take_succ_eq_append_getElem (l := l) (i := n) (by omega)
    rw [List.take_of_length_le (by omega)] at h1
    obtain ⟨h2, h3⟩ := List.getElem?_eq_some_iff.1 hon
    rw [h3] at h1; exact h1
  have ht : l.take n = l1 := by rw [hl, ← hn, List.take_left']; rfl
  rw [ht] at hL h
  subst hl hn
  unfold lastB at hL
  simp only [Bool.and_eq_true, Option.isNone_iff_eq_none] at hL
  obtain ⟨hd, hall⟩ := hL
  have hoff : ∀ j, j < l1.length → (l1 ++ [on]).toArray[0 + j]? = l1[j]? := fun j hj => by
    simp [List.getElem?_append_left hj]
  obtain ⟨D, hD0, hD, hE⟩ := flow_dataL (ops := (l1 ++ [on]).toArray) (a0 := a) l1 0 (fun _ => .inl undef) hoff h
  simp only [Nat.zero_add] at hD hE
  have hsame : ∀ i, i < l1.length → (fun i => if i = l1.length then (.inl undef : Kind) else D i) i = D i := fun i hi => by simp [Nat.ne_of_lt hi]
  have hact := actD_congr (ops := (l1 ++ [on]).toArray) (a0 := a) l1.length hsame
  have hheld := heldD_congr (ops := (l1 ++ [on]).toArray) l1.length hsame
  refine (flow_anyL (D := fun i => if i = l1.length then .inl undef else D i) (n := l1.length) (on := on) (by simp) (by simp) hd (fun j hj => by simpa using List.all_eq_true.1 hall j (List.mem_range.2 hj)) hF (flowOk_of hB) ⟨undef, by simp⟩
    (fun i o hi ho => stepD_congr (D := D) (fun j hj => by simp; omega) (hD i o (by omega) hi ho)) (fun w' hw' => by rw [hact, hheld]; exact hE w' hw') _ _ _ _ ?_ ?_ ?_)
  · simp
  · simp
  · refine ⟨hF0, by simp, rfl, rfl, fun _ _ => rfl, fun k hk => ?_, fun j o ho hj => ?_⟩
    · simp [Array.getElem?_replicate] at hk; split at hk <;> simp at hk
    · simp [Array.getElem?_replicate] at hj; split at hj <;> simp at hj
theorem round_last_row {id : Nat} {Q : Exit → Act → World → Prop} {a : Act} {w : World} {ol : List Oper} (row : Option Nat) (Ws Ms : List Nat) {N : Nat} (k : Nat) {on : Oper} (hm : P.follows .mixedOrders = true) (hops : noDefer ol.toArray = true) (hN : a.tmps.size = N) (hlen : ol.length = k + 1) (hon : ol[k]? = some on)
    (hB : flowB ol.toArray (ancOf ol.toArray) Ws Ms N = true) (hL : lastB (ol.take k) on = true)
    (h : Flow P ol.toArray (rowF w row) (ancOf ol.toArray) Ws Ms (fun a w => wpList P ol.toArray (normQ Q) [on] a w) (ol.take k) 0 a []) : (Code.region id ol.toArray true).wpIn (Fence.wide.inRound l) n P Q a w :=
  region_round hm hops (any_flow_last hN hlen hon hB hL (rowF_drew w row) (fun w' u h => rowF_ext w' u h) h)
end
end Go.Proofs.Ytbppamjogdjfkaa
set_option linter.unusedSimpArgs false
set_option linter.unusedVariables false
namespace Go.Proofs.Ytbppamjogdjfkaa
open Go.RowKit

section
variable {P : Program} {ops : Array Oper} {F G0 : World → Prop} {Ws Ms : List Nat} {an : List (List Nat)} {Q : Act → World → Prop}
/-- It comes ahead of all that goes wild, or is it. -/
def preB (an : List (List Nat)) (Ws : List Nat) (k : Nat) : Bool := Ws.all fun x => x == k || (an.getD x []).contains k
abbrev At0 (F G0 : World → Prop) (an : List (List Nat)) (Ws : List Nat) (k : Nat) (w : World) : Prop := F w ∧ (preB an Ws k = true → G0 w)
def FlowG (P : Program) (ops : Array Oper) (F G0 : World → Prop) (an : List (List Nat)) (Ws Ms : List Nat) (Q : Act → World → Prop) : List Oper → Nat → Act → List HeldP → Prop
  | [], _, a, H => ∀ w, F w → endH (liveOf an Ws Ms H) H a w fun a' => Q a' w
  | o :: rest, k, a, H =>
    (∃ c, (∀ w, At0 F G0 an Ws k w → useH (maskOf ops o H) H a w fun a' => KnownAt P ops o a' c w) ∧ FlowG P ops F G0 an Ws Ms Q rest (k + 1) (a.put o.dst c) H) ∨
    (∃ post, stable F (Ms.contains k) post ∧ (∀ w, At0 F G0 an Ws k w → useH (maskOf ops o H) H a w fun a' => HeldAt P ops F (Ws.contains k) o a' post w) ∧
      FlowG P ops F G0 an Ws Ms Q rest (k + 1) a (H ++ [⟨k, o.dst, post⟩]))
def stepG (P : Program) (ops : Array Oper) (F G0 : World → Prop) (an : List (List Nat)) (Ws Ms : List Nat) (a0 : Act) (D : Nat → Kind) (k : Nat) (o : Oper) : Prop :=
  match D k with
  | .inl c => ∀ w, At0 F G0 an Ws k w → useH (maskOf ops o (heldD ops D k)) (heldD ops D k) (actD ops a0 D k) w fun a' => KnownAt P ops o a' c w
  | .inr p => stable F (Ms.contains k) p ∧ ∀ w, At0 F G0 an Ws k w → useH (maskOf ops o (heldD ops D k)) (heldD ops D k) (actD ops a0 D k) w fun a' => HeldAt P ops F (Ws.contains k) o a' p w
theorem stepG_congr {a0 : Act} {D D' : Nat → Kind} {k : Nat} {o : Oper} (h : ∀ i, i < k + 1 → D i = D' i) (hs : stepG P ops F G0 an Ws Ms a0 D k o) : stepG P ops F G0 an Ws Ms a0 D' k o := by
  unfold stepG at *
  rw [← h k (by omega), ← actD_congr k (fun i hi => h i (by omega)), ← heldD_congr k (fun i hi => h i (by omega))]
  exact hs
theorem flow_dataG {a0 : Act} : ∀ (rest : List Oper) (k : Nat) (D : Nat → Kind), (∀ j, j < rest.length → ops[k + j]? = rest[j]?) → FlowG P ops F G0 an Ws Ms Q rest k (actD ops a0 D k) (heldD ops D k) →
    ∃ D', (∀ i, i < k → D' i = D i) ∧ (∀ i o, k ≤ i → i < k + rest.length → ops[i]? = some o → stepG P ops F G0 an Ws Ms a0 D' i o) ∧
      ∀ w, F w → endH (liveOf an Ws Ms (heldD ops D' (k + rest.length))) (heldD ops D' (k + rest.length)) (actD ops a0 D' (k + rest.length)) w fun a' => Q a' w
  | [], k, D, hr, h => ⟨D, fun _ _ => rfl, fun i o hi hl ho => by simp at hl; omega, h⟩
  | o :: rest, k, D, hr, h => by
    have ho : ops[k]? = some o := by simpa using hr 0 (by simp)
    have hr' : ∀ j, j < rest.length → ops[k + 1 + j]? = rest[j]? := fun j hj => by
      have := hr (j + 1) (by simp; omega)
      rw [show k + (j + 1) = k + 1 + j by omega] at this
      simpa using this
    have upd : ∀ (K : Kind), ∃ D1 : Nat → Kind, (∀ i, i < k → D1 i = D i) ∧ D1 k = K := fun K => ⟨fun i => if i = k then K else D i, fun i hi => by simp [Nat.ne_of_lt hi], by simp⟩
    rcases h with ⟨c, h1, h2⟩ | ⟨p, hst, h1, h2⟩
    · obtain ⟨D1, hd, hk⟩ := upd (.inl c)
      have ha : actD ops a0 D1 (k + 1) = (actD ops a0 D k).put o.dst c := by simp only [actD, hk, ho, actD_congr k hd]
      have hH : heldD ops D1 (k + 1) = heldD ops D k := by simp only [heldD, hk, heldD_congr k hd]
      obtain ⟨D2, hd2, hs2, he2⟩ := flow_dataG rest (k + 1) D1 hr' (by rw [ha, hH]; exact h2)
      refine ⟨D2, fun i hi => (hd2 i (by omega)).trans (hd i hi), fun i o' hi hl ho' => ?_, ?_⟩
      · by_cases e : i = k
        · subst e
          obtain rfl : o = o' := by rw [ho] at ho'; exact Option.some.inj ho'
          refine stepG_congr (D := D1) (fun j hj => (hd2 j hj).symm) ?_
          unfold stepG; rw [hk, heldD_congr i hd, actD_congr i hd]; exact h1
        · exact hs2 i o' (by omega) (by simp at hl; omega) ho'
      · rw [show k + (o :: rest).length = k + 1 + rest.length by simp; omega]; exact he2
    · obtain ⟨D1, hd, hk⟩ := upd (.inr p)
      have ha : actD ops a0 D1 (k + 1) = actD ops a0 D k := by simp only [actD, hk, actD_congr k hd]
      have hH : heldD ops D1 (k + 1) = heldD ops D k ++ [⟨k, o.dst, p⟩] := by simp only [heldD, hk, ho, heldD_congr k hd]
      obtain ⟨D2, hd2, hs2, he2⟩ := flow_dataG rest (k + 1) D1 hr' (by rw [ha, hH]; exact h2)
      refine ⟨D2, fun i hi => (hd2 i (by omega)).trans (hd i hi), fun i o' hi hl ho' => ?_, ?_⟩
      · by_cases e : i = k
        · subst e
          obtain rfl : o = o' := by rw [ho] at ho'; exact Option.some.inj ho'
          refine stepG_congr (D := D1) (fun j hj => (hd2 j hj).symm) ?_
          unfold stepG; rw [hk, heldD_congr i hd, actD_congr i hd]; exact ⟨hst, h1⟩
        · exact hs2 i o' (by omega) (by simp at hl; omega) ho'
      · rw [show k + (o :: rest).length = k + 1 + rest.length by simp; omega]; exact he2

/-- Ahead of what goes wild the world is as at first, but that it grows. -/
def Tame (Ws : List Nat) (G0 : World → Prop) (listed : Array Bool) (w : World) : Prop := (∀ x ∈ Ws, listed.getD x false = false) → G0 w
theorem FlowInv.opG {a0 : Act} {D : Nat → Kind} {listed : Array Bool} {a : Act} {w : World} {k : Nat} {Q' : Exit → Act → World → Prop} (hF : ∀ w (u : Ext), F w → F (w.ext u)) (hG : ∀ w (u : Ext), G0 w → G0 (w.ext u)) (ok : FlowOk ops an Ws Ms a0.tmps.size)
    (hsts : ∀ (j : Nat) (o : Oper), ops[j]? = some o → ∀ p, D j = .inr p → stable F (Ms.contains j) p) (hD : ∀ (o : Oper), ops[k]? = some o → stepG P ops F G0 an Ws Ms a0 D k o) (I : FlowInv ops F an Ws Ms a0 D listed a w) (ht : Tame Ws G0 listed w) (hr : k ∈ Region.ready .any ops listed)
    {K : Act → World → Prop} (hK : ∀ a' w', FlowInv ops F an Ws Ms a0 D (listed.setIfInBounds k true) a' w' → Tame Ws G0 (listed.setIfInBounds k true) w' → K a' w') : wpOp P ops Q' k K a w := by
  obtain ⟨hun, o, ho, _⟩ := mem_ready.1 hr
  have hkl : k < listed.size := by rw [I.lsz]; exact (Array.getElem?_eq_some_iff.1 ho).1
  have at0 : At0 F G0 an Ws k w := ⟨I.hF, fun hp => ht fun x hx => by
    unfold preB at hp
    have := List.all_eq_true.1 hp x hx
    simp only [Bool.or_eq_true, beq_iff_eq, List.contains_iff_mem] at this
    rcases this with rfl | h
    · exact getD_ff hun
    · cases hl : listed.getD x false with
      | false => rfl
      | true =>
        have := I.closed x hl k h
        rw [getD_ff hun] at this; cases this⟩
  have go : ∀ v w', onW F (Ws.contains k) w w' → postOf (D k) v w' → K (a.put o.dst v) w' := fun v w' hw hp => by
    refine hK _ _ (I.step ok ho hr (fun c => ?_) hsts hw hp) fun hx => ?_
    · cases hDk : D k with
      | inl c => exact .inr (by unfold stable; split <;> intros <;> assumption)
      | inr p => exact .inr (hsts k o ho p hDk)
    · have hnw : Ws.contains k = false := by
        rw [← Bool.not_eq_true, List.contains_iff_mem]
        intro hk
        have := hx k hk
        rw [(getD_set hkl).2 (.inl rfl)] at this; cases this
      obtain ⟨u, rfl⟩ := hw.2 hnw
      refine hG _ u (ht fun x hx' => ?_)
      have := hx x hx'
      cases hl : listed.getD x false with
      | false => rfl
      | true => rw [(getD_set hkl).2 (.inr hl)] at this; cases this
  have self : onW F (Ws.contains k) w w := ⟨I.hF, fun _ => ⟨_, (ext_refl w).choose_spec⟩⟩
  have hs := hD o ho
  unfold stepG at hs
  have sel := Region.noSelect_spec ok.sel k o
  unfold wpOp
  simp only [ho]
  cases hDk : D k with
  | inl c =>
    simp only [hDk] at hs
    obtain ⟨a', hk, hl⟩ := I.looks ok ho hr (hs w at0)
    unfold KnownAt at hk
    rw [← wanted_congr hl, ← execOp_looks (fun cs b => sel cs b ho) hl] at hk
    rw [hDk] at go
    by_cases hw : Region.wanted o (yielded ops a.tmps) = true
    · rw [if_pos hw] at hk ⊢
      left
      unfold Oper.wp
      generalize (execOp a.eval o).run P w = r at hk
      cases r with
      | ok n w' =>
        cases n <;> simp only [knownUpon] at hk <;> simp only [Oper.upon]
        case value u => obtain ⟨rfl, rfl⟩ := hk; exact go _ _ self rfl
        case skip => obtain ⟨rfl, rfl⟩ := hk; exact go _ _ self rfl
        case enter f args =>
          obtain ⟨rfl, hc⟩ := hk
          refine hc.mono ?_
          rintro e w2 ⟨rfl, u, rfl⟩
          exact go _ _ ⟨hF _ u I.hF, fun _ => ⟨u, rfl⟩⟩ rfl
      | halt x w' => simp only [knownUpon] at hk
    · rw [if_neg hw] at hk ⊢
      exact go _ _ self hk.symm
  | inr p =>
    simp only [hDk] at hs
    obtain ⟨a', hk, hl⟩ := I.looks ok ho hr (hs.2 w at0)
    unfold HeldAt at hk
    rw [← wanted_congr hl, ← execOp_looks (fun cs b => sel cs b ho) hl] at hk
    rw [hDk] at go
    by_cases hw : Region.wanted o (yielded ops a.tmps) = true
    · rw [if_pos hw] at hk ⊢
      left
      unfold Oper.wp
      generalize (execOp a.eval o).run P w = r at hk
      cases r with
      | ok n w' =>
        cases n <;> simp only [heldUpon] at hk <;> simp only [Oper.upon]
        case value u => exact go _ _ hk.2 hk.1
        case skip => exact go _ _ hk.2 hk.1
        case enter f args =>
          obtain ⟨rfl, hc⟩ := hk
          refine hc.mono ?_
          rintro e w2 ⟨v, rfl, hp, hon⟩
          exact go _ _ hon hp
      | halt x w' => simp only [heldUpon] at hk
    · rw [if_neg hw] at hk ⊢
      exact go _ _ self hk

theorem flow_anyG {a0 : Act} {D : Nat → Kind} {Q' : Exit → Act → World → Prop} {n : Nat} {on : Oper} (hn : ops.size = n + 1) (hon : ops[n]? = some on) (hdn : on.dst = none) (hall : ∀ j, j < n → j ∈ an.getD n [])
    (hF : ∀ w (u : Ext), F w → F (w.ext u)) (hG : ∀ w (u : Ext), G0 w → G0 (w.ext u)) (ok : FlowOk ops an Ws Ms a0.tmps.size)
    (hDn : ∃ c, D n = .inl c) (hD : ∀ (i : Nat) (o : Oper), i < n → ops[i]? = some o → stepG P ops F G0 an Ws Ms a0 D i o)
    (hE : ∀ w, F w → endH (liveOf an Ws Ms (heldD ops D n)) (heldD ops D n) (actD ops a0 D n) w fun a' => wpList P ops Q' [on] a' w) :
    ∀ (fuel : Nat) (listed : Array Bool) (a : Act) (w : World), listed.toList.count false ≤ fuel → listed.getD n true = false → FlowInv ops F an Ws Ms a0 D listed a w → Tame Ws G0 listed w → wpAny P .any ops Q' fuel listed a w := by
  have hsts : ∀ (j : Nat) (o : Oper), ops[j]? = some o → ∀ p, D j = .inr p → stable F (Ms.contains j) p := fun j o ho p hp => by
    have hj := (Array.getElem?_eq_some_iff.1 ho).1
    rcases Nat.lt_or_ge j n with h | h
    · have := hD j o h ho
      unfold stepG at this
      rw [hp] at this
      exact this.1
    · obtain rfl : j = n := by omega
      obtain ⟨c, hc⟩ := hDn
      rw [hc] at hp; cases hp
  have notnil : ∀ (listed : Array Bool) (a : Act) (w : World), listed.getD n true = false → FlowInv ops F an Ws Ms a0 D listed a w → Region.ready .any ops listed ≠ [] := fun listed a w hl I h => by
    have := I.full ok h n (by omega)
    rw [getD_ff hl] at this; cases this
  intro fuel
  induction fuel with
  | zero =>
    intro listed a w hc hl I _
    exfalso
    have hlt : n < listed.size := by rw [I.lsz]; omega
    simp [hlt] at hl
    have : false ∈ listed.toList := by rw [← hl]; simp
    have := List.count_pos_iff.2 this
    omega
  | succ fuel ih =>
    intro listed a w hc hl I hT
    refine ⟨fun hnil => (notnil listed a w hl I hnil).elim, fun k hk => ?_⟩
    have hkl : k < ops.size := by
      obtain ⟨_, o, ho, _⟩ := mem_ready.1 hk
      exact (Array.getElem?_eq_some_iff.1 ho).1
    rcases Nat.lt_or_ge k n with hkn | hkn
    · refine I.opG hF hG ok hsts (fun o ho => hD k o hkn ho) hT hk fun a' w' I' hT' => ih _ a' w' ?_ (by rw [getD_set_ne true (by omega)]; exact hl) I' hT'
      have h0 := (mem_ready.1 hk).1
      have hlt : k < listed.size := by rw [I.lsz]; exact hkl
      simp [hlt] at h0
      rw [Array.toList_setIfInBounds]
      have hlt' : k < listed.toList.length := by simpa using hlt
      have hg : listed.toList[k] = false := by simpa using h0
      rw [List.set_eq_take_append_cons_drop]
      rw [if_pos hlt', List.count_append, List.count_cons_of_ne (by simp)]
      have hsplit : listed.toList = listed.toList.take k ++ false :: listed.toList.drop (k + 1) := by
        rw [← hg, List.getElem_cons_drop, List.take_append_drop]
      have := congrArg (List.count false) hsplit
      rw [List.count_append, List.count_cons_self] at this
      omega
    · obtain rfl : k = n := by omega
      have hfull : ∀ j, j < k → listed.getD j false = true := fun j hj => by
        obtain ⟨_, e, he, hb, hje⟩ := ok.low k on hon j (hall j hj)
        obtain ⟨_, o2, ho2, hall2⟩ := mem_ready.1 hk
        rw [hon] at ho2; cases ho2
        have := hall2 e he hb
        rcases hje with rfl | hje
        · exact this
        · exact I.closed _ this j hje
      have hw := I.endL (Q := fun a w => wpList P ops Q' [on] a w) hn hon hdn ok hfull (hE w I.hF)
      have hls : k < listed.size := by rw [I.lsz]; omega
      have hready : Region.ready .any ops (listed.setIfInBounds k true) = [] := by
        rw [List.eq_nil_iff_forall_not_mem]
        intro j hj
        obtain ⟨h0, o, ho, _⟩ := mem_ready.1 hj
        have hj' := (Array.getElem?_eq_some_iff.1 ho).1
        have h1 : (listed.setIfInBounds k true).getD j false = true := by
          rw [getD_set hls]
          rcases Nat.lt_or_ge j k with h | h
          · exact .inr (hfull j h)
          · exact .inl (by omega)
        rw [getD_ff h0] at h1; cases h1
      have hwo : wpOp P ops Q' k (wpList P ops Q' []) a w := by unfold wpOp; simp only [hon]; exact hw
      refine wpOp_mono (fun a' w' h' => ?_) hwo
      cases fuel with
      | zero => exact ⟨hready, h'⟩
      | succ f => exact ⟨fun _ => h', fun j hj => by rw [hready] at hj; cases hj⟩

/-- **THE LAW**, with a world that is written by one operation: what comes ahead of it finds the world as it was. -/
theorem wp_region_row_last {id : Nat} {Q' : Exit → Act → World → Prop} {a : Act} {w : World} {l : List Oper} (row : Option Nat) (Ws Ms : List Nat) {N : Nat} (n : Nat) {on : Oper} (hm : P.follows .mixedOrders = true) (hN : a.tmps.size = N) (hlen : l.length = n + 1) (hon : l[n]? = some on)
    (hB : flowB l.toArray (ancOf l.toArray) Ws Ms N = true) (hL : lastB (l.take n) on = true)
    (h : FlowG P l.toArray (rowF w row) (extF w) (ancOf l.toArray) Ws Ms (fun a w => wpList P l.toArray Q' [on] a w) (l.take n) 0 a []) : (Code.region id l.toArray true).wp P Q' a w := by
  subst hN
  obtain ⟨l1, hl, hn⟩ : ∃ l1, l = l1 ++ [on] ∧ l1.length = n := by
    refine ⟨l.take n, ?_, by rw [List.length_take]; omega⟩
    have h1 := List.take_succ_eq_append_getElem (l := l) (i := n) (by omega)
    rw [List.take_of_length_le (by omega)] at h1
    obtain ⟨h2, h3⟩ := List.getElem?_eq_some_iff.1 hon
    rw [h3] at h1; exact h1
  have ht : l.take n = l1 := by rw [hl, ← hn, List.take_left']; rfl
  rw [ht] at hL h
  subst hl hn
  unfold lastB at hL
  simp only [Bool.and_eq_true, Option.isNone_iff_eq_none] at hL
  obtain ⟨hd, hall⟩ := hL
  have hoff : ∀ j, j < l1.length → (l1 ++ [on]).toArray[0 + j]? = l1[j]? := fun j hj => by
    simp [List.getElem?_append_left hj]
  obtain ⟨D, hD0, hD, hE⟩ := flow_dataG (ops := (l1 ++ [on]).toArray) (a0 := a) l1 0 (fun _ => .inl undef) hoff h
  simp only [Nat.zero_add] at hD hE
  have hsame : ∀ i, i < l1.length → (fun i => if i = l1.length then (.inl undef : Kind) else D i) i = D i := fun i hi => by simp [Nat.ne_of_lt hi]
  have hact := actD_congr (ops := (l1 ++ [on]).toArray) (a0 := a) l1.length hsame
  have hheld := heldD_congr (ops := (l1 ++ [on]).toArray) l1.length hsame
  refine wp_region_any hm (flow_anyG (D := fun i => if i = l1.length then .inl undef else D i) (n := l1.length) (on := on) (by simp) (by simp) hd (fun j hj => by simpa using List.all_eq_true.1 hall j (List.mem_range.2 hj)) (fun w' u h => rowF_ext w' u h) (fun _ u ⟨x, hx⟩ => by rw [hx]; exact ext_ext w x u) (flowOk_of hB) ⟨undef, by simp⟩
    (fun i o hi ho => stepG_congr (D := D) (fun j hj => by simp; omega) (hD i o (by omega) hi ho)) (fun w' hw' => by rw [hact, hheld]; exact hE w' hw') _ _ _ _ ?_ ?_ ?_ ?_)
  · simp
  · simp
  · refine ⟨rowF_drew w row, by simp, rfl, rfl, fun _ _ => rfl, fun k hk => ?_, fun j o ho hj => ?_⟩
    · simp [Array.getElem?_replicate] at hk; split at hk <;> simp at hk
    · simp [Array.getElem?_replicate] at hj; split at hj <;> simp at hj
  · intro _; exact ext_drew w
section
variable {o : Oper} {rest : List Oper} {k : Nat} {a : Act} {H : List HeldP} {w0 : World}
theorem flowG_known (hms : (maskOf ops o H).all (! ·) = true)
    (h : ∀ K : Act → Prop, (∀ a, FlowG P ops F G0 an Ws Ms Q rest (k + 1) a H → K a) → ∃ c, (∀ w, KnownAt P ops o a c w) ∧ K (a.put o.dst c)) : FlowG P ops F G0 an Ws Ms Q (o :: rest) k a H := by
  obtain ⟨c, h1, h2⟩ := h _ fun _ h => h
  exact .inl ⟨c, fun w hw => useH_none (h1 w) _ _ hms, h2⟩
/-- .. known ahead of what goes wild. -/
theorem flowG_known0 (hms : (maskOf ops o H).all (! ·) = true) (hp : preB an Ws k = true)
    (h : ∀ K : Act → Prop, (∀ a, FlowG P ops F (extF w0) an Ws Ms Q rest (k + 1) a H → K a) → ∃ c, (∀ u : Ext, KnownAt P ops o a c (w0.ext u)) ∧ K (a.put o.dst c)) : FlowG P ops F (extF w0) an Ws Ms Q (o :: rest) k a H := by
  obtain ⟨c, h1, h2⟩ := h _ fun _ h => h
  exact .inl ⟨c, fun w hw => useH_none (by obtain ⟨u, rfl⟩ := hw.2 hp; exact h1 u) _ _ hms, h2⟩
/-- .. held ahead of what goes wild, or it. -/
theorem flowG_keep (ms : List Bool) (post : Post) (hms : maskOf ops o H = ms) (hst : stable F (Ms.contains k) post) (hp : preB an Ws k = true)
    (h1 : ∀ u : Ext, F (w0.ext u) → useH ms H a (w0.ext u) fun a' => HeldAt P ops F (Ws.contains k) o a' post (w0.ext u))
    (h2 : FlowG P ops F (extF w0) an Ws Ms Q rest (k + 1) a (H ++ [⟨k, o.dst, post⟩])) : FlowG P ops F (extF w0) an Ws Ms Q (o :: rest) k a H :=
  .inr ⟨post, hst, fun w hw => hms ▸ (by obtain ⟨u, rfl⟩ := hw.2 hp; exact h1 u hw.1), h2⟩
theorem flowG_done (ms : List Bool) (hms : liveOf an Ws Ms H = ms) (h : ∀ w, F w → endH ms H a w fun a' => Q a' w) : FlowG P ops F G0 an Ws Ms Q [] k a H := fun w hw => hms ▸ h w hw
/-- a slice of the call's own, behind an append -/
def PushP {α : Type} [Rep α] (base : Nat) (T : TypeId) (S : Nat → Prop) (row : Option Nat) (B : Nat) (xs : List α) : Post := fun v w => OwnL w base T S v xs ∧ (v.ownBlock = row ∨ ∃ g, v.ownBlock = some g ∧ B ≤ g) ∧ ∀ b, S b → b < w.heap.size
theorem PushP.stable_ {α : Type} [Rep α] {base B : Nat} {T : TypeId} {S : Nat → Prop} {row : Option Nat} {xs : List α} {mem : Bool} (hm : mem = true) : stable F mem (PushP base T S row B xs) :=
  stable_mem hm fun _ _ u ⟨h, h', h''⟩ => ⟨h.ext u, h', fun b hb => by rw [size_ext]; have := h'' b hb; omega⟩
/-- a variable that has just been made, with what it holds -/
def NewC (B : Nat) (cs : Array Value) (T : TypeId) : Post := fun v w => ∃ g, v = .pointer (some ⟨g, 0, none⟩) ∧ B ≤ g ∧ w.heap[g]? = some (.cells cs T (0, 0))
theorem NewC.stable_ {B : Nat} {cs : Array Value} {T : TypeId} {mem : Bool} (hm : mem = true) : stable F mem (NewC B cs T) :=
  stable_mem hm fun _ w u ⟨g, h1, h2, h3⟩ => ⟨g, h1, h2, by rw [ext_block w u g (Array.getElem?_eq_some_iff.1 h3).1]; exact h3⟩
theorem NewC.mk_ {w : World} {B g : Nat} {cs : Array Value} {T : TypeId} (hg : g = w.heap.size) (hB : B ≤ w.heap.size) : NewC B cs T (.pointer (some ⟨g, 0, none⟩)) (w.alloc (.cells cs T)) := by
  subst hg; exact ⟨_, rfl, hB, heap_alloc_new w _⟩
/-- a literal that has just been laid -/
def LitP (T : TypeId) (us : List Value) (m : Nat) : Post := fun v w => ∃ g, v = .slice (some ⟨g, 0, none⟩) m m ∧ w.heap[g]? = some (.cells us.toArray T (0, 0))
theorem LitP.stable_ {T : TypeId} {us : List Value} {m : Nat} {mem : Bool} (hm : mem = true) : stable F mem (LitP T us m) :=
  stable_mem hm fun _ w u ⟨g, h1, h2⟩ => ⟨g, h1, by rw [ext_block w u g (Array.getElem?_eq_some_iff.1 h2).1]; exact h2⟩
theorem LitP.mk_ {w : World} {T : TypeId} {us : List Value} {m g : Nat} (hg : g = w.heap.size) : LitP T us m (.slice (some ⟨g, 0, none⟩) m m) (w.alloc (.cells us.toArray T)) := by
  subst hg; exact ⟨_, rfl, heap_alloc_new w _⟩
theorem onW_row_alloc {w0 w : World} {row : Option Nat} {o : Obj} {b : Bool} (h : rowF w0 row w) : onW (rowF w0 row) b w (w.alloc o) := by
  obtain ⟨x, hx⟩ := ext_alloc w o
  exact ⟨by rw [hx]; exact rowF_ext w x h, fun _ => ⟨x, hx⟩⟩
theorem HeldAt.push_own {α : Type} [Rep α] {w : World} (hgd : o.guard = none) (s x : Operand) (t : TypeId)
    (ho : o.op = .call { callee := .builtin .append, args := #[s, x], argTypes := #[t, t] }) (base : Nat) (T : TypeId) (i : TypeInfo) (z : Value) (bytes : Nat) (ht : P.underlying t = some (.slice T)) (hi : P.info? T = some i) (hz : i.zero = some z)
    (hsize : i.size = Rep.size α) (hby : i.bytes = bytes) (hzs : z.cells.size = Rep.size α) (hsz : 0 < Rep.size α)
    (S S' : Nat → Prop) (v : Value) (xs : List α) (y : α) (us : List Value) (T' : TypeId) (hs : a.eval s = v) (hown : OwnL w base T S v xs) {v1 : Value} (hx : a.eval x = v1) (hr1 : LitP T' us 1 v1 w) (hr : Rep.is w S' y us)
    (hSS : ∀ b, S b → S' b) (hap : ∀ g, v.ownBlock = some g → ¬ S' g) (hnew : ∀ b, S' b → b < w.heap.size)
    (hlen : (xs.length + 1) * bytes ≤ 140737488355328) (hlen' : xs.length + 1 ≤ 9223372036854775807) (hbase : base ≤ w.heap.size) (hw : w0.grownBy w v.ownBlock) : HeldAt P ops (rowF w0 v.ownBlock) true o a (PushP base T S' v.ownBlock w0.heap.size (xs ++ [y])) w := by
  refine HeldAt.of hgd ?_
  obtain ⟨g, rfl, hg⟩ := hr1
  have hlaid : ∀ j u, us[j]? = some u → w.cell? ((⟨g, 0, none⟩ : Addr).add j) = some u := by
    intro j u hj
    have hadd : (⟨g, 0, none⟩ : Addr).add j = ⟨g, j, none⟩ := by unfold Addr.add; split <;> simp_all
    rw [hadd, cell_of_row w g _ _ T' (0, 0) hg]; simpa using hj
  obtain ⟨vals, hrow, hrep, hapart⟩ := hown
  obtain ⟨v', w', hrun, h2, h3, _, h5⟩ := run_append_own_at (P := P) w base t o.type T i z (Rep.size α) bytes ht hi hz hsize hby hzs hsz v xs.length vals hrow ⟨g, 0, none⟩ 1 1 us (by rw [Rep.len hr, Nat.one_mul]) hlaid (Rep.one hr) (by unfold maxLen; omega) hlen hbase
  unfold execOp
  simp only [ho, resolve, invoke, builtin, Sem.run_bind, Sem.run_pure, Result.andThen_ok, List.map_toArray, List.map_cons, List.map_nil, hs, hx, hrun]
  have hh : OwnL w' base T S' v' (xs ++ [y]) := by
    refine ⟨vals ++ us, by rw [List.length_append]; exact h2, ?_, ?_⟩
    · refine RepL.keep (w := w) (RepL.append (hrep.more fun b _ hb => hSS b hb) (RepL.single hr)) h3.size fun b hb hlt => h3.block b hlt fun e => hap b e.symm hb
    · intro k hk hS
      rcases h5 with e | e
      · rw [e] at hk; exact hap k hk hS
      · rw [e] at hk; injection hk with hk; subst hk; exact absurd (hnew _ hS) (by omega)
  refine ⟨⟨hh, ?_, fun b hb => Nat.lt_of_lt_of_le (hnew b hb) h3.size⟩, hw.trans h3, fun h => by cases h⟩
  rcases h5 with h5 | h5
  · exact .inl h5
  · exact .inr ⟨_, h5, hw.size⟩
end
end
end Go.Proofs.Ytbppamjogdjfkaa
set_option linter.unusedSimpArgs false
set_option linter.unusedVariables false
namespace Go.Proofs.Ytbppamjogdjfkaa
open Go.RowKit

section
variable {P : Program} {l n : Nat}
theorem round_row_last {id : Nat} {Q : Exit → Act → World → Prop} {a : Act} {w : World} {ol : List Oper} (row : Option Nat) (Ws Ms : List Nat) {N : Nat} (k : Nat) {on : Oper} (hm : P.follows .mixedOrders = true) (hops : noDefer ol.toArray = true) (hN : a.tmps.size = N) (hlen : ol.length = k + 1) (hon : ol[k]? = some on)
    (hB : flowB ol.toArray (ancOf ol.toArray) Ws Ms N = true) (hL : lastB (ol.take k) on = true)
    (h : FlowG P ol.toArray (rowF w row) (extF w) (ancOf ol.toArray) Ws Ms (fun a w => wpList P ol.toArray (normQ Q) [on] a w) (ol.take k) 0 a []) : (Code.region id ol.toArray true).wpIn (Fence.wide.inRound l) n P Q a w := by
  subst hN
  obtain ⟨l1, hl, hn⟩ : ∃ l1, ol = l1 ++ [on] ∧ l1.length = k := by
    refine ⟨ol.take k, ?_, by rw [List.length_take]; omega⟩
    have h1 := List.take_succ_eq_append_getElem (l := ol) (i := k) (by omega)
    rw [List.take_of_length_le (by omega)] at h1
    obtain ⟨h2, h3⟩ := List.getElem?_eq_some_iff.1 hon
    rw [h3] at h1; exact h1
  have ht : ol.take k = l1 := by rw [hl, ← hn, List.take_left']; rfl
  rw [ht] at hL h
  subst hl hn
  unfold lastB at hL
  simp only [Bool.and_eq_true, Option.isNone_iff_eq_none] at hL
  obtain ⟨hd, hall⟩ := hL
  have hoff : ∀ j, j < l1.length → (l1 ++ [on]).toArray[0 + j]? = l1[j]? := fun j hj => by
    simp [List.getElem?_append_left hj]
  obtain ⟨D, hD0, hD, hE⟩ := flow_dataG (ops := (l1 ++ [on]).toArray) (a0 := a) l1 0 (fun _ => .inl undef) hoff h
  simp only [Nat.zero_add] at hD hE
  have hsame : ∀ i, i < l1.length → (fun i => if i = l1.length then (.inl undef : Kind) else D i) i = D i := fun i hi => by simp [Nat.ne_of_lt hi]
  have hact := actD_congr (ops := (l1 ++ [on]).toArray) (a0 := a) l1.length hsame
  have hheld := heldD_congr (ops := (l1 ++ [on]).toArray) l1.length hsame
  refine region_round hm hops (flow_anyG (D := fun i => if i = l1.length then .inl undef else D i) (n := l1.length) (on := on) (by simp) (by simp) hd (fun j hj => by simpa using List.all_eq_true.1 hall j (List.mem_range.2 hj)) (fun w' u h => rowF_ext w' u h) (fun _ u ⟨x, hx⟩ => by rw [hx]; exact ext_ext w x u) (flowOk_of hB) ⟨undef, by simp⟩
    (fun i o hi ho => stepG_congr (D := D) (fun j hj => by simp; omega) (hD i o (by omega) hi ho)) (fun w' hw' => by rw [hact, hheld]; exact hE w' hw') _ _ _ _ ?_ ?_ ?_ ?_)
  · simp
  · simp
  · refine ⟨rowF_drew w row, by simp, rfl, rfl, fun _ _ => rfl, fun k hk => ?_, fun j o ho hj => ?_⟩
    · simp [Array.getElem?_replicate] at hk; split at hk <;> simp at hk
    · simp [Array.getElem?_replicate] at hj; split at hj <;> simp at hj
  · intro _; exact ext_drew w
end
section
variable {P : Program} {ops : Array Oper} {F G0 : World → Prop} {an : List (List Nat)} {Ws Ms : List Nat} {Q : Act → World → Prop} {o : Oper} {rest : List Oper} {k : Nat} {a : Act} {H : List HeldP}
/-- .. known in each world that may be. -/
theorem flowG_knownW (hms : (maskOf ops o H).all (! ·) = true)
    (h : ∀ K : Act → Prop, (∀ a, FlowG P ops F G0 an Ws Ms Q rest (k + 1) a H → K a) → ∃ c, (∀ w, F w → KnownAt P ops o a c w) ∧ K (a.put o.dst c)) : FlowG P ops F G0 an Ws Ms Q (o :: rest) k a H := by
  obtain ⟨c, h1, h2⟩ := h _ fun _ h => h
  exact .inl ⟨c, fun w hw => useH_none (h1 w hw.1) _ _ hms, h2⟩
end
end Go.Proofs.Ytbppamjogdjfkaa
