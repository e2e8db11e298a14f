/- Regions that draw their order, whose last operation waits for all others and leaves a value. -/
import Derived.Test.YtoghikagooegbaaN3
set_option linter.unusedSimpArgs false
set_option linter.unusedVariables false
namespace Go.Proofs.Ytoghikagooegbaa
open Go.RowKit

section
variable {P : Program} {ops : Array Oper} {F G0 : World → Prop} {Ws Ms : List Nat} {an : List (List Nat)} {Q : Act → World → Prop}
/-- All others have come up. -/
theorem FlowInv.endD {a0 : Act} {D : Nat → Kind} {listed : Array Bool} {a : Act} {w : World} {n : Nat} {on : Oper} (hn : ops.size = n + 1) (hon : ops[n]? = some on) (hln : listed.getD n true = false) (ok : FlowOk ops an Ws Ms a0.tmps.size) (I : FlowInv ops F an Ws Ms a0 D listed a w)
    (hfull : ∀ j, j < n → listed.getD j false = true)
    (h : endH (liveOf an Ws Ms (heldD ops D n)) (heldD ops D n) (actD ops a0 D n) w fun a' => Q a' w) : Q a w := by
  have hsz := actD_size (ops := ops) (a0 := a0) (D := D) n
  have hout := endH_out a _ _ _ (by simp [liveOf]) (fun p hp h1 => ?_) h
  · have hsp := putsFrom_spec a ((heldD ops D n).map (·.dst)) (actD ops a0 D n) (by rw [hsz.1, I.size])
    have : a = putsFrom a ((heldD ops D n).map (·.dst)) (actD ops a0 D n) := by
      refine act_ext (by rw [hsp.1, hsz.1, I.size]) (by rw [hsp.2.1, hsz.2, I.defs]) fun d hd => ?_
      rw [I.size] at hd
      rw [hsp.2.2 d (by rw [hsz.1]; exact hd)]
      split
      · rfl
      · rename_i hno
        by_cases hex : ∃ (j : Nat) (oj : Oper), ops[j]? = some oj ∧ oj.dst = some d
        · obtain ⟨j, oj, hj, hjd⟩ := hex
          have hjs := (Array.getElem?_eq_some_iff.1 hj).1
          rcases Nat.lt_or_ge j n with hjn | hjn
          · cases hDj : D j with
            | inl c =>
              rw [actD_known hd hj hjd hDj (fun i o' hi h' => ok.one j oj d hj hjd i o' hi h') _ hjn]
              obtain ⟨v, hv, hx⟩ := I.got j oj hj (hfull j hjn) (.inl ⟨c, hDj⟩)
              rw [hDj] at hv
              have := hx d hjd
              rw [show v = c from hv] at this
              have hb : d < a.tmps.size := by rw [I.size]; exact hd
              rw [Array.getElem?_eq_getElem hb]
              simp [valOf, hb] at this
              rw [this]
            | inr p =>
              exact absurd (List.mem_map.2 ⟨⟨j, oj.dst, p⟩, (heldD_mem _ _).2 ⟨hjn, oj, hj, rfl, hDj⟩, hjd⟩) hno
          · obtain rfl : j = n := by omega
            have one : ∀ i o', ops[i]? = some o' → o'.dst = some d → i = j := fun i o' hi h' => ok.one j oj d hj hjd i o' hi h'
            rw [actD_other hd _ (fun i o' hi ho' hd' => by have := one i o' ho' hd'; omega)]
            exact I.out d fun i o' hi hl hd' => by
              obtain rfl := one i o' hi hd'
              rw [getD_ff hln] at hl; cases hl
        · rw [actD_other hd _ (fun j oj _ hj hjd => (hex ⟨j, oj, hj, hjd⟩).elim)]
          exact I.out d fun j oj hj _ hjd => hex ⟨j, oj, hj, hjd⟩
    rw [this]; exact hout
  · obtain ⟨i, hi⟩ := List.mem_iff_getElem?.1 hp
    rw [List.getElem?_zip_eq_some] at hi
    obtain ⟨hi1, hi2⟩ := hi
    have hmem := List.mem_iff_getElem?.2 ⟨i, hi2⟩
    rw [liveOf, List.getElem?_map, hi2] at hi1
    simp only [Option.map_some, Option.some.injEq] at hi1
    obtain ⟨hlt, oj, hj, hjd, hDj⟩ := (heldD_mem _ _).1 hmem
    rw [h1] at hi1
    have hlive : liveAt an Ws Ms D listed p.2.idx := .inr fun hm i hi hli => by
      unfold liveB at hi1
      rw [List.contains_iff_mem.2 hm] at hi1
      simp only [Bool.not_true, Bool.false_or] at hi1
      have := List.all_eq_true.1 hi1 i hi
      simp only [Bool.or_eq_true, beq_iff_eq, List.contains_iff_mem] at this
      rcases this with h | h
      · exact .inl h
      · exact .inr h
    obtain ⟨v, hv, hx⟩ := I.got _ oj hj (hfull _ hlt) hlive
    rw [hDj] at hv
    exact ⟨v, hv, fun t ht => hx t (by rw [← hjd]; exact ht)⟩

theorem flow_anyGD {a0 : Act} {D : Nat → Kind} {Q' : Exit → Act → World → Prop} {n : Nat} {on : Oper} (hn : ops.size = n + 1) (hon : ops[n]? = some on) (hall : ∀ j, j < n → j ∈ an.getD n [])
    (hF : ∀ w (u : Ext), F w → F (w.ext u)) (hG : ∀ w (u : Ext), G0 w → G0 (w.ext u)) (ok : FlowOk ops an Ws Ms a0.tmps.size)
    (hDn : ∃ c, D n = .inl c) (hD : ∀ (i : Nat) (o : Oper), i < n → ops[i]? = some o → stepG P ops F G0 an Ws Ms a0 D i o)
    (hE : ∀ w, F w → endH (liveOf an Ws Ms (heldD ops D n)) (heldD ops D n) (actD ops a0 D n) w fun a' => wpList P ops Q' [on] a' w) :
    ∀ (fuel : Nat) (listed : Array Bool) (a : Act) (w : World), listed.toList.count false ≤ fuel → listed.getD n true = false → FlowInv ops F an Ws Ms a0 D listed a w → Tame Ws G0 listed w → wpAny P .any ops Q' fuel listed a w := by
  have hsts : ∀ (j : Nat) (o : Oper), ops[j]? = some o → ∀ p, D j = .inr p → stable F (Ms.contains j) p := fun j o ho p hp => by
    have hj := (Array.getElem?_eq_some_iff.1 ho).1
    rcases Nat.lt_or_ge j n with h | h
    · have := hD j o h ho
      unfold stepG at this
      rw [hp] at this
      exact this.1
    · obtain rfl : j = n := by omega
      obtain ⟨c, hc⟩ := hDn
      rw [hc] at hp; cases hp
  have notnil : ∀ (listed : Array Bool) (a : Act) (w : World), listed.getD n true = false → FlowInv ops F an Ws Ms a0 D listed a w → Region.ready .any ops listed ≠ [] := fun listed a w hl I h => by
    have := I.full ok h n (by omega)
    rw [getD_ff hl] at this; cases this
  intro fuel
  induction fuel with
  | zero =>
    intro listed a w hc hl I _
    exfalso
    have hlt : n < listed.size := by rw [I.lsz]; omega
    simp [hlt] at hl
    have : false ∈ listed.toList := by rw [← hl]; simp
    have := List.count_pos_iff.2 this
    omega
  | succ fuel ih =>
    intro listed a w hc hl I hT
    refine ⟨fun hnil => (notnil listed a w hl I hnil).elim, fun k hk => ?_⟩
    have hkl : k < ops.size := by
      obtain ⟨_, o, ho, _⟩ := mem_ready.1 hk
      exact (Array.getElem?_eq_some_iff.1 ho).1
    rcases Nat.lt_or_ge k n with hkn | hkn
    · refine I.opG hF hG ok hsts (fun o ho => hD k o hkn ho) hT hk fun a' w' I' hT' => ih _ a' w' ?_ (by rw [getD_set_ne true (by omega)]; exact hl) I' hT'
      have h0 := (mem_ready.1 hk).1
      have hlt : k < listed.size := by rw [I.lsz]; exact hkl
      simp [hlt] at h0
      rw [Array.toList_setIfInBounds]
      have hlt' : k < listed.toList.length := by simpa using hlt
      have hg : listed.toList[k] = false := by simpa using h0
      rw [List.set_eq_take_append_cons_drop]
      rw [if_pos hlt', List.count_append, List.count_cons_of_ne (by simp)]
      have hsplit : listed.toList = listed.toList.take k ++ false :: listed.toList.drop (k + 1) := by
        rw [← hg, List.getElem_cons_drop, List.take_append_drop]
      have := congrArg (List.count false) hsplit
      rw [List.count_append, List.count_cons_self] at this
      omega
    · obtain rfl : k = n := by omega
      have hfull : ∀ j, j < k → listed.getD j false = true := fun j hj => by
        obtain ⟨_, e, he, hb, hje⟩ := ok.low k on hon j (hall j hj)
        obtain ⟨_, o2, ho2, hall2⟩ := mem_ready.1 hk
        rw [hon] at ho2; cases ho2
        have := hall2 e he hb
        rcases hje with rfl | hje
        · exact this
        · exact I.closed _ this j hje
      have hw := I.endD (Q := fun a w => wpList P ops Q' [on] a w) hn hon hl ok hfull (hE w I.hF)
      have hls : k < listed.size := by rw [I.lsz]; omega
      have hready : Region.ready .any ops (listed.setIfInBounds k true) = [] := by
        rw [List.eq_nil_iff_forall_not_mem]
        intro j hj
        obtain ⟨h0, o, ho, _⟩ := mem_ready.1 hj
        have hj' := (Array.getElem?_eq_some_iff.1 ho).1
        have h1 : (listed.setIfInBounds k true).getD j false = true := by
          rw [getD_set hls]
          rcases Nat.lt_or_ge j k with h | h
          · exact .inr (hfull j h)
          · exact .inl (by omega)
        rw [getD_ff h0] at h1; cases h1
      have hwo : wpOp P ops Q' k (wpList P ops Q' []) a w := by unfold wpOp; simp only [hon]; exact hw
      refine wpOp_mono (fun a' w' h' => ?_) hwo
      cases fuel with
      | zero => exact ⟨hready, h'⟩
      | succ f => exact ⟨fun _ => h', fun j hj => by rw [hready] at hj; cases hj⟩

end
def lastBD (l : List Oper) (on : Oper) : Bool := (List.range l.length).all fun j => ((ancOf (l ++ [on]).toArray).getD l.length []).contains j
/-- THE LAW of a region that draws (its last operation, behind all others, may leave a value), for a world that is written by one operation, said of any worlds that may be. -/
theorem wp_region_G_lastD {P : Program} {id : Nat} {Q' : Exit → Act → World → Prop} {a : Act} {w : World} {l : List Oper} (F G0 : World → Prop) (Ws Ms : List Nat) {N : Nat} (n : Nat) {on : Oper} (hm : P.follows .mixedOrders = true) (hN : a.tmps.size = N) (hlen : l.length = n + 1) (hon : l[n]? = some on)
    (hB : flowB l.toArray (ancOf l.toArray) Ws Ms N = true) (hL : lastBD (l.take n) on = true) (hF : ∀ w (u : Ext), F w → F (w.ext u)) (hG : ∀ w (u : Ext), G0 w → G0 (w.ext u)) (hF0 : F w.drew) (hG0 : G0 w.drew)
    (h : FlowG P l.toArray F G0 (ancOf l.toArray) Ws Ms (fun a w => wpList P l.toArray Q' [on] a w) (l.take n) 0 a []) : (Code.region id l.toArray true).wp P Q' a w := by
  subst hN
  obtain ⟨l1, hl, hn⟩ : ∃ l1, l = l1 ++ [on] ∧ l1.length = n := by
    refine ⟨l.take n, ?_, by rw [List.length_take]; omega⟩
    have h1 := List.take_succ_eq_append_getElem (l := l) (i := n) (by omega)
    rw [List.take_of_length_le (by omega)] at h1
    obtain ⟨h2, h3⟩ := List.getElem?_eq_some_iff.1 hon
    rw [h3] at h1; exact h1
  have ht : l.take n = l1 := by rw [hl, ← hn, List.take_left']; rfl
  rw [ht] at hL h
  subst hl hn
  have hall := hL
  unfold lastBD at hall
  have hoff : ∀ j, j < l1.length → (l1 ++ [on]).toArray[0 + j]? = l1[j]? := fun j hj => by
    simp [List.getElem?_append_left hj]
  obtain ⟨D, hD0, hD, hE⟩ := flow_dataG (ops := (l1 ++ [on]).toArray) (a0 := a) l1 0 (fun _ => .inl undef) hoff h
  simp only [Nat.zero_add] at hD hE
  have hsame : ∀ i, i < l1.length → (fun i => if i = l1.length then (.inl undef : Kind) else D i) i = D i := fun i hi => by simp [Nat.ne_of_lt hi]
  have hact := actD_congr (ops := (l1 ++ [on]).toArray) (a0 := a) l1.length hsame
  have hheld := heldD_congr (ops := (l1 ++ [on]).toArray) l1.length hsame
  refine wp_region_any hm (flow_anyGD (D := fun i => if i = l1.length then .inl undef else D i) (n := l1.length) (on := on) (by simp) (by simp) (fun j hj => by simpa using List.all_eq_true.1 hall j (List.mem_range.2 hj)) hF hG (flowOk_of hB) ⟨undef, by simp⟩
    (fun i o hi ho => stepG_congr (D := D) (fun j hj => by simp; omega) (hD i o (by omega) hi ho)) (fun w' hw' => by rw [hact, hheld]; exact hE w' hw') _ _ _ _ ?_ ?_ ?_ ?_)
  · simp
  · simp
  · refine ⟨hF0, by simp, rfl, rfl, fun _ _ => rfl, fun k hk => ?_, fun j o ho hj => ?_⟩
    · simp [Array.getElem?_replicate] at hk; split at hk <;> simp at hk
    · simp [Array.getElem?_replicate] at hj; split at hj <;> simp at hj
  · intro _; exact hG0
theorem wp_region_row_lastD {P : Program} {id : Nat} {Q' : Exit → Act → World → Prop} {a : Act} {w : World} {l : List Oper} (row : Option Nat) (Ws Ms : List Nat) {N : Nat} (n : Nat) {on : Oper} (hm : P.follows .mixedOrders = true) (hN : a.tmps.size = N) (hlen : l.length = n + 1) (hon : l[n]? = some on)
    (hB : flowB l.toArray (ancOf l.toArray) Ws Ms N = true) (hL : lastBD (l.take n) on = true)
    (h : FlowG P l.toArray (rowF w row) (extF w) (ancOf l.toArray) Ws Ms (fun a w => wpList P l.toArray Q' [on] a w) (l.take n) 0 a []) : (Code.region id l.toArray true).wp P Q' a w :=
  wp_region_G_lastD (rowF w row) (extF w) Ws Ms n hm hN hlen hon hB hL (fun w' u h => rowF_ext w' u h) (fun _ u ⟨x, hx⟩ => by rw [hx]; exact ext_ext w x u) (rowF_drew w row) (ext_drew w) h
end Go.Proofs.Ytoghikagooegbaa
