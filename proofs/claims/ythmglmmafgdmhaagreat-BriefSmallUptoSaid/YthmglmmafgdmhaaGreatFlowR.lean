/- Regions that draw their order, in a round of a range over a function. -/
import Derived.Test.YthmglmmafgdmhaaGreatFlow4
import Derived.RangeFuncNested
import Derived.RangeFuncBound
import Derived.RangeFuncCalls
import Derived.RangeFuncLeaves
import Derived.OrdersIn
set_option linter.unusedSimpArgs false
set_option linter.unusedVariables false
namespace Go.Proofs.YthmglmmafgdmhaaGreat
open Go.RowKit

section
variable {P : Program} {l n : Nat}
def noDefer (ops : Array Oper) : Bool := ops.all fun o => match o.op with | .defer _ => false | _ => true
theorem noDefer_at {ops : Array Oper} (h : noDefer ops = true) {i : Nat} {o : Oper} (ho : ops[i]? = some o) : ∀ c, o.op ≠ .defer c := by
  intro c hc
  obtain ⟨hi, rfl⟩ := Array.getElem?_eq_some_iff.1 ho
  have := Array.all_eq_true.1 h i hi
  rw [hc] at this
  cases this
theorem Oper.wp_round {o : Oper} {a : Act} {w : World} {K : Act → World → Prop} {Q1 Q2 : Exit → Act → World → Prop} (hd : ∀ c, o.op ≠ .defer c) (hq : ∀ e a w, Q1 e a w → Q2 e a w)
    (h : o.wp P a w K Q1) : o.wpIn (Fence.wide.inRound l) n P a w K Q2 := by
  refine ⟨fun _ _ => trivial, ?_⟩
  rw [Oper.semAt_eq _ _ _ hd]
  unfold Oper.wp at h
  generalize (execOp a.eval o).run P w = r at h ⊢
  match r, h with
  | .ok (.value v) w', h => exact h
  | .ok .skip w', h => exact h
  | .ok (.defer d) w', h => exact h
  | .ok (.enter f args) w', h =>
    refine ⟨fun h => (by cases h), CallsIn.inRound l (callsIn_wide.2 (h.mono ?_))⟩
    intro e w'' he
    match e, he with
    | .returned v, he => exact he
    | .panicked chain, he => exact hq _ _ _ he
    | .outgrown, he => obtain ⟨a, w, he⟩ := he; exact ⟨a, w, hq _ _ _ he⟩
  | .ok (.row row args) w', h =>
    refine ⟨fun h => (by cases h), fun c cs _ => ?_⟩
    obtain ⟨v, w', r, s⟩ := h c cs
    exact ⟨v, w', r, stepsIn_wide.2 s⟩
  | .ok (.round _ _ _ _ _) w', h => exact h.elim
  | .halt (.panic v) w', h => exact hq _ _ _ h
theorem any_round {md : Region.Mode} {ops : Array Oper} {Q1 Q2 : Exit → Act → World → Prop} (hops : noDefer ops = true) (hq : ∀ e a w, Q1 e a w → Q2 e a w) (hn : ¬ LetsOut Q1) :
    ∀ (fuel : Nat) (listed : Array Bool) (a : Act) (w : World), wpAny P md ops Q1 fuel listed a w → wpAnyIn (Fence.wide.inRound l) n P md ops Q2 fuel listed a w
  | 0, listed, a, w, h => ⟨h.1, hq _ _ _ h.2⟩
  | fuel + 1, listed, a, w, h => by
    refine ⟨fun hr => hq _ _ _ (h.1 hr), fun i hi => ?_⟩
    have h2 := h.2 i hi
    unfold wpOp at h2
    unfold wpOpIn
    split
    · rename_i ho
      simp only [ho] at h2
      exact any_round hops hq hn fuel _ _ _ h2
    · rename_i o ho
      simp only [ho] at h2
      split
      · rename_i hw
        rw [if_pos hw] at h2
        rcases h2 with h2 | h2
        · exact Oper.wp_round (noDefer_at hops ho) hq (Oper.wp_mono (fun a w => any_round hops hq hn fuel _ a w) h2)
        · exact (hn h2.2).elim
      · rename_i hw
        rw [if_neg hw] at h2
        exact ⟨fun _ _ => trivial, any_round hops hq hn fuel _ _ _ h2⟩
/-- A region in a round, that leaves in its order alone. -/
abbrev normQ (Q : Exit → Act → World → Prop) : Exit → Act → World → Prop := fun e a w => e = .normal ∧ Q e a w
theorem region_round {id : Nat} {ops : Array Oper} {Q : Exit → Act → World → Prop} {a : Act} {w : World} (hm : P.follows .mixedOrders = true) (hops : noDefer ops = true)
    (h : wpAny P .any ops (normQ Q) ops.size (Array.replicate ops.size false) a { w with drawn := w.drawn + 1 }) : (Code.region id ops true).wpIn (Fence.wide.inRound l) n P Q a w :=
  wpIn_region_any hm (any_round hops (fun _ _ _ h => h.2) (fun ⟨_, _, h⟩ => by cases h.1) _ _ _ _ h)
/-- **THE LAW**, as any region's; the last operation is done behind all others. -/
theorem any_flow_last {Q' : Exit → Act → World → Prop} {a : Act} {w : World} {l : List Oper} {F : World → Prop} {Ws Ms : List Nat} {N n : Nat} {on : Oper} (hN : a.tmps.size = N) (hlen : l.length = n + 1) (hon : l[n]? = some on)
    (hB : flowB l.toArray (ancOf l.toArray) Ws Ms N = true) (hL : lastB (l.take n) on = true) (hF0 : F w.drew) (hF : ∀ w (u : Ext), F w → F (w.ext u))
    (h : Flow P l.toArray F (ancOf l.toArray) Ws Ms (fun a w => wpList P l.toArray Q' [on] a w) (l.take n) 0 a []) : wpAny P .any l.toArray Q' l.toArray.size (Array.replicate l.toArray.size false) a { w with drawn := w.drawn + 1 } := by
  subst hN
  obtain ⟨l1, hl, hn⟩ : ∃ l1, l = l1 ++ [on] ∧ l1.length = n := by
    refine ⟨l.take n, ?_, by rw [List.length_take]; omega⟩
    have h1 := List.take_succ_eq_append_getElem (l := l) (i := n) (by omega)
    rw [List.take_of_length_le (by omega)] at h1
    obtain ⟨h2, h3⟩ := List.getElem?_eq_some_iff.1 hon
    rw [h3] at h1; exact h1
  have ht : l.take n = l1 := by rw [hl, ← hn, List.take_left']; rfl
  rw [ht] at hL h
  subst hl hn
  unfold lastB at hL
  simp only [Bool.and_eq_true, Option.isNone_iff_eq_none] at hL
  obtain ⟨hd, hall⟩ := hL
  have hoff : ∀ j, j < l1.length → (l1 ++ [on]).toArray[0 + j]? = l1[j]? := fun j hj => by
    simp [List.getElem?_append_left hj]
  obtain ⟨D, hD0, hD, hE⟩ := flow_dataL (ops := (l1 ++ [on]).toArray) (a0 := a) l1 0 (fun _ => .inl undef) hoff h
  simp only [Nat.zero_add] at hD hE
  have hsame : ∀ i, i < l1.length → (fun i => if i = l1.length then (.inl undef : Kind) else D i) i = D i := fun i hi => by simp [Nat.ne_of_lt hi]
  have hact := actD_congr (ops := (l1 ++ [on]).toArray) (a0 := a) l1.length hsame
  have hheld := heldD_congr (ops := (l1 ++ [on]).toArray) l1.length hsame
  refine (flow_anyL (D := fun i => if i = l1.length then .inl undef else D i) (n := l1.length) (on := on) (by simp) (by simp) hd (fun j hj => by simpa using List.all_eq_true.1 hall j (List.mem_range.2 hj)) hF (flowOk_of hB) ⟨undef, by simp⟩
    (fun i o hi ho => stepD_congr (D := D) (fun j hj => by simp; omega) (hD i o (by omega) hi ho)) (fun w' hw' => by rw [hact, hheld]; exact hE w' hw') _ _ _ _ ?_ ?_ ?_)
  · simp
  · simp
  · refine ⟨hF0, by simp, rfl, rfl, fun _ _ => rfl, fun k hk => ?_, fun j o ho hj => ?_⟩
    · simp [Array.getElem?_replicate] at hk; split at hk <;> simp at hk
    · simp [Array.getElem?_replicate] at hj; split at hj <;> simp at hj
theorem round_last_row {id : Nat} {Q : Exit → Act → World → Prop} {a : Act} {w : World} {ol : List Oper} (row : Option Nat) (Ws Ms : List Nat) {N : Nat} (k : Nat) {on : Oper} (hm : P.follows .mixedOrders = true) (hops : noDefer ol.toArray = true) (hN : a.tmps.size = N) (hlen : ol.length = k + 1) (hon : ol[k]? = some on)
    (hB : flowB ol.toArray (ancOf ol.toArray) Ws Ms N = true) (hL : lastB (ol.take k) on = true)
    (h : Flow P ol.toArray (rowF w row) (ancOf ol.toArray) Ws Ms (fun a w => wpList P ol.toArray (normQ Q) [on] a w) (ol.take k) 0 a []) : (Code.region id ol.toArray true).wpIn (Fence.wide.inRound l) n P Q a w :=
  region_round hm hops (any_flow_last hN hlen hon hB hL (rowF_drew w row) (fun w' u h => rowF_ext w' u h) h)
end
end Go.Proofs.YthmglmmafgdmhaaGreat
