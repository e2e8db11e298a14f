/- Regions that draw their order, in a round of a range over a function, one of whose operations writes a row. -/
import Derived.Test.YthmglmmafgdmhaaGreatFlowR
import Derived.Test.YthmglmmafgdmhaaGreatFlow5
set_option linter.unusedSimpArgs false
set_option linter.unusedVariables false
namespace Go.Proofs.YthmglmmafgdmhaaGreat
open Go.RowKit

section
variable {P : Program} {l n : Nat}
theorem round_row_last {id : Nat} {Q : Exit → Act → World → Prop} {a : Act} {w : World} {ol : List Oper} (row : Option Nat) (Ws Ms : List Nat) {N : Nat} (k : Nat) {on : Oper} (hm : P.follows .mixedOrders = true) (hops : noDefer ol.toArray = true) (hN : a.tmps.size = N) (hlen : ol.length = k + 1) (hon : ol[k]? = some on)
    (hB : flowB ol.toArray (ancOf ol.toArray) Ws Ms N = true) (hL : lastB (ol.take k) on = true)
    (h : FlowG P ol.toArray (rowF w row) (extF w) (ancOf ol.toArray) Ws Ms (fun a w => wpList P ol.toArray (normQ Q) [on] a w) (ol.take k) 0 a []) : (Code.region id ol.toArray true).wpIn (Fence.wide.inRound l) n P Q a w := by
  subst hN
  obtain ⟨l1, hl, hn⟩ : ∃ l1, ol = l1 ++ [on] ∧ l1.length = k := by
    refine ⟨ol.take k, ?_, by rw [List.length_take]; omega⟩
    have h1 := List.take_succ_eq_append_getElem (l := ol) (i := k) (by omega)
    rw [List.take_of_length_le (by omega)] at h1
    obtain ⟨h2, h3⟩ := List.getElem?_eq_some_iff.1 hon
    rw [h3] at h1; exact h1
  have ht : ol.take k = l1 := by rw [hl, ← hn, List.take_left']; rfl
  rw [ht] at hL h
  subst hl hn
  unfold lastB at hL
  simp only [Bool.and_eq_true, Option.isNone_iff_eq_none] at hL
  obtain ⟨hd, hall⟩ := hL
  have hoff : ∀ j, j < l1.length → (l1 ++ [on]).toArray[0 + j]? = l1[j]? := fun j hj => by
    simp [List.getElem?_append_left hj]
  obtain ⟨D, hD0, hD, hE⟩ := flow_dataG (ops := (l1 ++ [on]).toArray) (a0 := a) l1 0 (fun _ => .inl undef) hoff h
  simp only [Nat.zero_add] at hD hE
  have hsame : ∀ i, i < l1.length → (fun i => if i = l1.length then (.inl undef : Kind) else D i) i = D i := fun i hi => by simp [Nat.ne_of_lt hi]
  have hact := actD_congr (ops := (l1 ++ [on]).toArray) (a0 := a) l1.length hsame
  have hheld := heldD_congr (ops := (l1 ++ [on]).toArray) l1.length hsame
  refine region_round hm hops (flow_anyG (D := fun i => if i = l1.length then .inl undef else D i) (n := l1.length) (on := on) (by simp) (by simp) hd (fun j hj => by simpa using List.all_eq_true.1 hall j (List.mem_range.2 hj)) (fun w' u h => rowF_ext w' u h) (fun _ u ⟨x, hx⟩ => by rw [hx]; exact ext_ext w x u) (flowOk_of hB) ⟨undef, by simp⟩
    (fun i o hi ho => stepG_congr (D := D) (fun j hj => by simp; omega) (hD i o (by omega) hi ho)) (fun w' hw' => by rw [hact, hheld]; exact hE w' hw') _ _ _ _ ?_ ?_ ?_ ?_)
  · simp
  · simp
  · refine ⟨rowF_drew w row, by simp, rfl, rfl, fun _ _ => rfl, fun k hk => ?_, fun j o ho hj => ?_⟩
    · simp [Array.getElem?_replicate] at hk; split at hk <;> simp at hk
    · simp [Array.getElem?_replicate] at hj; split at hj <;> simp at hj
  · intro _; exact ext_drew w
end
section
variable {P : Program} {ops : Array Oper} {F G0 : World → Prop} {an : List (List Nat)} {Ws Ms : List Nat} {Q : Act → World → Prop} {o : Oper} {rest : List Oper} {k : Nat} {a : Act} {H : List HeldP}
/-- .. known in each world that may be. -/
theorem flowG_knownW (hms : (maskOf ops o H).all (! ·) = true)
    (h : ∀ K : Act → Prop, (∀ a, FlowG P ops F G0 an Ws Ms Q rest (k + 1) a H → K a) → ∃ c, (∀ w, F w → KnownAt P ops o a c w) ∧ K (a.put o.dst c)) : FlowG P ops F G0 an Ws Ms Q (o :: rest) k a H := by
  obtain ⟨c, h1, h2⟩ := h _ fun _ h => h
  exact .inl ⟨c, fun w hw => useH_none (h1 w hw.1) _ _ hms, h2⟩
end
end Go.Proofs.YthmglmmafgdmhaaGreat
