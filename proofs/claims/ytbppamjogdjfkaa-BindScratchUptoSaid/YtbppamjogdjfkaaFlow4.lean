/- Regions that draw their order and make memory, whose last operation waits for all others: the law. -/
import Derived.Test.YtbppamjogdjfkaaN4
set_option linter.unusedSimpArgs false
set_option linter.unusedVariables false
namespace Go.Proofs.Ytbppamjogdjfkaa
open Go.RowKit

section
variable {P : Program} {ops : Array Oper} {F : World → Prop} {Ws Ms : List Nat} {an : List (List Nat)} {Q : Act → World → Prop}

theorem flow_dataL {a0 : Act} : ∀ (rest : List Oper) (k : Nat) (D : Nat → Kind), (∀ j, j < rest.length → ops[k + j]? = rest[j]?) → Flow P ops F an Ws Ms Q rest k (actD ops a0 D k) (heldD ops D k) →
    ∃ D', (∀ i, i < k → D' i = D i) ∧ (∀ i o, k ≤ i → i < k + rest.length → ops[i]? = some o → stepD P ops F Ws Ms a0 D' i o) ∧
      ∀ w, F w → endH (liveOf an Ws Ms (heldD ops D' (k + rest.length))) (heldD ops D' (k + rest.length)) (actD ops a0 D' (k + rest.length)) w fun a' => Q a' w
  | [], k, D, hr, h => ⟨D, fun _ _ => rfl, fun i o hi hl ho => by simp at hl; omega, h⟩
  | o :: rest, k, D, hr, h => by
    have ho : ops[k]? = some o := by simpa using hr 0 (by simp)
    have hr' : ∀ j, j < rest.length → ops[k + 1 + j]? = rest[j]? := fun j hj => by
      have := hr (j + 1) (by simp; omega)
      rw [show k + (j + 1) = k + 1 + j by omega] at this
      simpa using this
    have upd : ∀ (K : Kind), ∃ D1 : Nat → Kind, (∀ i, i < k → D1 i = D i) ∧ D1 k = K := fun K => ⟨fun i => if i = k then K else D i, fun i hi => by simp [Nat.ne_of_lt hi], by simp⟩
    rcases h with ⟨c, h1, h2⟩ | ⟨p, hst, h1, h2⟩
    · obtain ⟨D1, hd, hk⟩ := upd (.inl c)
      have ha : actD ops a0 D1 (k + 1) = (actD ops a0 D k).put o.dst c := by simp only [actD, hk, ho, actD_congr k hd]
      have hH : heldD ops D1 (k + 1) = heldD ops D k := by simp only [heldD, hk, heldD_congr k hd]
      obtain ⟨D2, hd2, hs2, he2⟩ := flow_dataL rest (k + 1) D1 hr' (by rw [ha, hH]; exact h2)
      refine ⟨D2, fun i hi => (hd2 i (by omega)).trans (hd i hi), fun i o' hi hl ho' => ?_, ?_⟩
      · by_cases e : i = k
        · subst e
          obtain rfl : o = o' := by rw [ho] at ho'; exact Option.some.inj ho'
          refine stepD_congr (D := D1) (fun j hj => (hd2 j hj).symm) ?_
          unfold stepD; rw [hk, heldD_congr i hd, actD_congr i hd]; exact h1
        · exact hs2 i o' (by omega) (by simp at hl; omega) ho'
      · rw [show k + (o :: rest).length = k + 1 + rest.length by simp; omega]; exact he2
    · obtain ⟨D1, hd, hk⟩ := upd (.inr p)
      have ha : actD ops a0 D1 (k + 1) = actD ops a0 D k := by simp only [actD, hk, actD_congr k hd]
      have hH : heldD ops D1 (k + 1) = heldD ops D k ++ [⟨k, o.dst, p⟩] := by simp only [heldD, hk, ho, heldD_congr k hd]
      obtain ⟨D2, hd2, hs2, he2⟩ := flow_dataL rest (k + 1) D1 hr' (by rw [ha, hH]; exact h2)
      refine ⟨D2, fun i hi => (hd2 i (by omega)).trans (hd i hi), fun i o' hi hl ho' => ?_, ?_⟩
      · by_cases e : i = k
        · subst e
          obtain rfl : o = o' := by rw [ho] at ho'; exact Option.some.inj ho'
          refine stepD_congr (D := D1) (fun j hj => (hd2 j hj).symm) ?_
          unfold stepD; rw [hk, heldD_congr i hd, actD_congr i hd]; exact ⟨hst, h1⟩
        · exact hs2 i o' (by omega) (by simp at hl; omega) ho'
      · rw [show k + (o :: rest).length = k + 1 + rest.length by simp; omega]; exact he2

theorem FlowInv.opL {a0 : Act} {D : Nat → Kind} {listed : Array Bool} {a : Act} {w : World} {k : Nat} {Q' : Exit → Act → World → Prop} (hF : ∀ w (u : Ext), F w → F (w.ext u)) (ok : FlowOk ops an Ws Ms a0.tmps.size)
    (hsts : ∀ (j : Nat) (o : Oper), ops[j]? = some o → ∀ p, D j = .inr p → stable F (Ms.contains j) p) (hD : ∀ (o : Oper), ops[k]? = some o → stepD P ops F Ws Ms a0 D k o) (I : FlowInv ops F an Ws Ms a0 D listed a w) (hr : k ∈ Region.ready .any ops listed)
    {K : Act → World → Prop} (hK : ∀ a' w', FlowInv ops F an Ws Ms a0 D (listed.setIfInBounds k true) a' w' → K a' w') : wpOp P ops Q' k K a w := by
  obtain ⟨_, o, ho, _⟩ := mem_ready.1 hr
  have go : ∀ v w', onW F (Ws.contains k) w w' → postOf (D k) v w' → K (a.put o.dst v) w' := fun v w' hw hp => by
    refine hK _ _ (I.step ok ho hr (fun c => ?_) hsts hw hp)
    cases hDk : D k with
    | inl c => exact .inr (by unfold stable; split <;> intros <;> assumption)
    | inr p => exact .inr (hsts k o ho p hDk)
  have self : onW F (Ws.contains k) w w := ⟨I.hF, fun _ => ⟨_, (ext_refl w).choose_spec⟩⟩
  have hs := hD o ho
  unfold stepD at hs
  have sel := Region.noSelect_spec ok.sel k o
  unfold wpOp
  simp only [ho]
  cases hDk : D k with
  | inl c =>
    simp only [hDk] at hs
    obtain ⟨a', hk, hl⟩ := I.looks ok ho hr (hs w I.hF)
    unfold KnownAt at hk
    rw [← wanted_congr hl, ← execOp_looks (fun cs b => sel cs b ho) hl] at hk
    rw [hDk] at go
    by_cases hw : Region.wanted o (yielded ops a.tmps) = true
    · rw [if_pos hw] at hk ⊢
      left
      unfold Oper.wp
      generalize (execOp a.eval o).run P w = r at hk
      cases r with
      | ok n w' =>
        cases n <;> simp only [knownUpon] at hk <;> simp only [Oper.upon]
        case value u => obtain ⟨rfl, rfl⟩ := hk; exact go _ _ self rfl
        case skip => obtain ⟨rfl, rfl⟩ := hk; exact go _ _ self rfl
        case enter f args =>
          obtain ⟨rfl, hc⟩ := hk
          refine hc.mono ?_
          rintro e w2 ⟨rfl, u, rfl⟩
          exact go _ _ ⟨hF _ u I.hF, fun _ => ⟨u, rfl⟩⟩ rfl
      | halt x w' => simp only [knownUpon] at hk
    · rw [if_neg hw] at hk ⊢
      exact go _ _ self hk.symm
  | inr p =>
    simp only [hDk] at hs
    obtain ⟨a', hk, hl⟩ := I.looks ok ho hr (hs.2 w I.hF)
    unfold HeldAt at hk
    rw [← wanted_congr hl, ← execOp_looks (fun cs b => sel cs b ho) hl] at hk
    rw [hDk] at go
    by_cases hw : Region.wanted o (yielded ops a.tmps) = true
    · rw [if_pos hw] at hk ⊢
      left
      unfold Oper.wp
      generalize (execOp a.eval o).run P w = r at hk
      cases r with
      | ok n w' =>
        cases n <;> simp only [heldUpon] at hk <;> simp only [Oper.upon]
        case value u => exact go _ _ hk.2 hk.1
        case skip => exact go _ _ hk.2 hk.1
        case enter f args =>
          obtain ⟨rfl, hc⟩ := hk
          refine hc.mono ?_
          rintro e w2 ⟨v, rfl, hp, hon⟩
          exact go _ _ hon hp
      | halt x w' => simp only [heldUpon] at hk
    · rw [if_neg hw] at hk ⊢
      exact go _ _ self hk

/-- All others have come up. -/
theorem FlowInv.endL {a0 : Act} {D : Nat → Kind} {listed : Array Bool} {a : Act} {w : World} {n : Nat} {on : Oper} (hn : ops.size = n + 1) (hon : ops[n]? = some on) (hdn : on.dst = none) (ok : FlowOk ops an Ws Ms a0.tmps.size) (I : FlowInv ops F an Ws Ms a0 D listed a w)
    (hfull : ∀ j, j < n → listed.getD j false = true)
    (h : endH (liveOf an Ws Ms (heldD ops D n)) (heldD ops D n) (actD ops a0 D n) w fun a' => Q a' w) : Q a w := by
  have hsz := actD_size (ops := ops) (a0 := a0) (D := D) n
  have hout := endH_out a _ _ _ (by simp [liveOf]) (fun p hp h1 => ?_) h
  · have hsp := putsFrom_spec a ((heldD ops D n).map (·.dst)) (actD ops a0 D n) (by rw [hsz.1, I.size])
    have : a = putsFrom a ((heldD ops D n).map (·.dst)) (actD ops a0 D n) := by
      refine act_ext (by rw [hsp.1, hsz.1, I.size]) (by rw [hsp.2.1, hsz.2, I.defs]) fun d hd => ?_
      rw [I.size] at hd
      rw [hsp.2.2 d (by rw [hsz.1]; exact hd)]
      split
      · rfl
      · rename_i hno
        by_cases hex : ∃ (j : Nat) (oj : Oper), ops[j]? = some oj ∧ oj.dst = some d
        · obtain ⟨j, oj, hj, hjd⟩ := hex
          have hjs := (Array.getElem?_eq_some_iff.1 hj).1
          have hjn : j < n := by
            rcases Nat.lt_or_ge j n with h | h
            · exact h
            · exfalso
              obtain rfl : j = n := by omega
              rw [hon] at hj; cases hj; rw [hdn] at hjd; cases hjd
          cases hDj : D j with
          | inl c =>
            rw [actD_known hd hj hjd hDj (fun i o' hi h' => ok.one j oj d hj hjd i o' hi h') _ hjn]
            obtain ⟨v, hv, hx⟩ := I.got j oj hj (hfull j hjn) (.inl ⟨c, hDj⟩)
            rw [hDj] at hv
            have := hx d hjd
            rw [show v = c from hv] at this
            have hb : d < a.tmps.size := by rw [I.size]; exact hd
            rw [Array.getElem?_eq_getElem hb]
            simp [valOf, hb] at this
            rw [this]
          | inr p =>
            exact absurd (List.mem_map.2 ⟨⟨j, oj.dst, p⟩, (heldD_mem _ _).2 ⟨hjn, oj, hj, rfl, hDj⟩, hjd⟩) hno
        · rw [actD_other hd _ (fun j oj _ hj hjd => (hex ⟨j, oj, hj, hjd⟩).elim)]
          exact I.out d fun j oj hj _ hjd => hex ⟨j, oj, hj, hjd⟩
    rw [this]; exact hout
  · obtain ⟨i, hi⟩ := List.mem_iff_getElem?.1 hp
    rw [List.getElem?_zip_eq_some] at hi
    obtain ⟨hi1, hi2⟩ := hi
    have hmem := List.mem_iff_getElem?.2 ⟨i, hi2⟩
    rw [liveOf, List.getElem?_map, hi2] at hi1
    simp only [Option.map_some, Option.some.injEq] at hi1
    obtain ⟨hlt, oj, hj, hjd, hDj⟩ := (heldD_mem _ _).1 hmem
    rw [h1] at hi1
    have hlive : liveAt an Ws Ms D listed p.2.idx := .inr fun hm i hi hli => by
      unfold liveB at hi1
      rw [List.contains_iff_mem.2 hm] at hi1
      simp only [Bool.not_true, Bool.false_or] at hi1
      have := List.all_eq_true.1 hi1 i hi
      simp only [Bool.or_eq_true, beq_iff_eq, List.contains_iff_mem] at this
      rcases this with h | h
      · exact .inl h
      · exact .inr h
    obtain ⟨v, hv, hx⟩ := I.got _ oj hj (hfull _ hlt) hlive
    rw [hDj] at hv
    exact ⟨v, hv, fun t ht => hx t (by rw [← hjd]; exact ht)⟩

theorem flow_anyL {a0 : Act} {D : Nat → Kind} {Q' : Exit → Act → World → Prop} {n : Nat} {on : Oper} (hn : ops.size = n + 1) (hon : ops[n]? = some on) (hdn : on.dst = none) (hall : ∀ j, j < n → j ∈ an.getD n [])
    (hF : ∀ w (u : Ext), F w → F (w.ext u)) (ok : FlowOk ops an Ws Ms a0.tmps.size)
    (hDn : ∃ c, D n = .inl c) (hD : ∀ (i : Nat) (o : Oper), i < n → ops[i]? = some o → stepD P ops F Ws Ms a0 D i o)
    (hE : ∀ w, F w → endH (liveOf an Ws Ms (heldD ops D n)) (heldD ops D n) (actD ops a0 D n) w fun a' => wpList P ops Q' [on] a' w) :
    ∀ (fuel : Nat) (listed : Array Bool) (a : Act) (w : World), listed.toList.count false ≤ fuel → listed.getD n true = false → FlowInv ops F an Ws Ms a0 D listed a w → wpAny P .any ops Q' fuel listed a w := by
  have hsts : ∀ (j : Nat) (o : Oper), ops[j]? = some o → ∀ p, D j = .inr p → stable F (Ms.contains j) p := fun j o ho p hp => by
    have hj := (Array.getElem?_eq_some_iff.1 ho).1
    rcases Nat.lt_or_ge j n with h | h
    · have := hD j o h ho
      unfold stepD at this
      rw [hp] at this
      exact this.1
    · obtain rfl : j = n := by omega
      obtain ⟨c, hc⟩ := hDn
      rw [hc] at hp; cases hp
  have notnil : ∀ (listed : Array Bool) (a : Act) (w : World), listed.getD n true = false → FlowInv ops F an Ws Ms a0 D listed a w → Region.ready .any ops listed ≠ [] := fun listed a w hl I h => by
    have := I.full ok h n (by omega)
    rw [getD_ff hl] at this; cases this
  intro fuel
  induction fuel with
  | zero =>
    intro listed a w hc hl I
    exfalso
    have hlt : n < listed.size := by rw [I.lsz]; omega
    simp [hlt] at hl
    have : false ∈ listed.toList := by rw [← hl]; simp
    have := List.count_pos_iff.2 this
    omega
  | succ fuel ih =>
    intro listed a w hc hl I
    refine ⟨fun hnil => (notnil listed a w hl I hnil).elim, fun k hk => ?_⟩
    have hkl : k < ops.size := by
      obtain ⟨_, o, ho, _⟩ := mem_ready.1 hk
      exact (Array.getElem?_eq_some_iff.1 ho).1
    rcases Nat.lt_or_ge k n with hkn | hkn
    · refine I.opL hF ok hsts (fun o ho => hD k o hkn ho) hk fun a' w' I' => ih _ a' w' ?_ (by rw [getD_set_ne true (by omega)]; exact hl) I'
      have h0 := (mem_ready.1 hk).1
      have hlt : k < listed.size := by rw [I.lsz]; exact hkl
      simp [hlt] at h0
      rw [Array.toList_setIfInBounds]
      have hlt' : k < listed.toList.length := by simpa using hlt
      have hg : listed.toList[k] = false := by simpa using h0
      rw [List.set_eq_take_append_cons_drop]
      rw [if_pos hlt', List.count_append, List.count_cons_of_ne (by simp)]
      have hsplit : listed.toList = listed.toList.take k ++ false :: listed.toList.drop (k + 1) := by
        rw [← hg, List.getElem_cons_drop, List.take_append_drop]
      have := congrArg (List.count false) hsplit
      rw [List.count_append, List.count_cons_self] at this
      omega
    · obtain rfl : k = n := by omega
      have hfull : ∀ j, j < k → listed.getD j false = true := fun j hj => by
        obtain ⟨_, e, he, hb, hje⟩ := ok.low k on hon j (hall j hj)
        obtain ⟨_, o2, ho2, hall2⟩ := mem_ready.1 hk
        rw [hon] at ho2; cases ho2
        have := hall2 e he hb
        rcases hje with rfl | hje
        · exact this
        · exact I.closed _ this j hje
      have hw := I.endL (Q := fun a w => wpList P ops Q' [on] a w) hn hon hdn ok hfull (hE w I.hF)
      have hls : k < listed.size := by rw [I.lsz]; omega
      have hready : Region.ready .any ops (listed.setIfInBounds k true) = [] := by
        rw [List.eq_nil_iff_forall_not_mem]
        intro j hj
        obtain ⟨h0, o, ho, _⟩ := mem_ready.1 hj
        have hj' := (Array.getElem?_eq_some_iff.1 ho).1
        have h1 : (listed.setIfInBounds k true).getD j false = true := by
          rw [getD_set hls]
          rcases Nat.lt_or_ge j k with h | h
          · exact .inr (hfull j h)
          · exact .inl (by omega)
        rw [getD_ff h0] at h1; cases h1
      have hwo : wpOp P ops Q' k (wpList P ops Q' []) a w := by unfold wpOp; simp only [hon]; exact hw
      refine wpOp_mono (fun a' w' h' => ?_) hwo
      cases fuel with
      | zero => exact ⟨hready, h'⟩
      | succ f => exact ⟨fun _ => h', fun j hj => by rw [hready] at hj; cases hj⟩

def lastB (l : List Oper) (on : Oper) : Bool := on.dst.isNone && (List.range l.length).all fun j => ((ancOf (l ++ [on]).toArray).getD l.length []).contains j
/-- **THE LAW**; the last operation is done behind all others. -/
theorem wp_region_flow_last {id : Nat} {Q' : Exit → Act → World → Prop} {a : Act} {w : World} {l : List Oper} {F : World → Prop} {Ws Ms : List Nat} {N n : Nat} {on : Oper} (hm : P.follows .mixedOrders = true) (hN : a.tmps.size = N) (hlen : l.length = n + 1) (hon : l[n]? = some on)
    (hB : flowB l.toArray (ancOf l.toArray) Ws Ms N = true) (hL : lastB (l.take n) on = true) (hF0 : F w.drew) (hF : ∀ w (u : Ext), F w → F (w.ext u))
    (h : Flow P l.toArray F (ancOf l.toArray) Ws Ms (fun a w => wpList P l.toArray Q' [on] a w) (l.take n) 0 a []) : (Code.region id l.toArray true).wp P Q' a w := by
  subst hN
  obtain ⟨l1, hl, hn⟩ : ∃ l1, l = l1 ++ [on] ∧ l1.length = n := by
    refine ⟨l.take n, ?_, by rw [List.length_take]; omega⟩
    have h1 := List.take_succ_eq_append_getElem (l := l) (i := n) (by omega)
    rw [List.take_of_length_le (by omega)] at h1
    obtain ⟨h2, h3⟩ := List.getElem?_eq_some_iff.1 hon
    rw [h3] at h1; exact h1
  have ht : l.take n = l1 := by rw [hl, ← hn, List.take_left']; rfl
  rw [ht] at hL h
  subst hl hn
  unfold lastB at hL
  simp only [Bool.and_eq_true, Option.isNone_iff_eq_none] at hL
  obtain ⟨hd, hall⟩ := hL
  have hoff : ∀ j, j < l1.length → (l1 ++ [on]).toArray[0 + j]? = l1[j]? := fun j hj => by
    simp [List.getElem?_append_left hj]
  obtain ⟨D, hD0, hD, hE⟩ := flow_dataL (ops := (l1 ++ [on]).toArray) (a0 := a) l1 0 (fun _ => .inl undef) hoff h
  simp only [Nat.zero_add] at hD hE
  have hsame : ∀ i, i < l1.length → (fun i => if i = l1.length then (.inl undef : Kind) else D i) i = D i := fun i hi => by simp [Nat.ne_of_lt hi]
  have hact := actD_congr (ops := (l1 ++ [on]).toArray) (a0 := a) l1.length hsame
  have hheld := heldD_congr (ops := (l1 ++ [on]).toArray) l1.length hsame
  refine wp_region_any hm (flow_anyL (D := fun i => if i = l1.length then .inl undef else D i) (n := l1.length) (on := on) (by simp) (by simp) hd (fun j hj => by simpa using List.all_eq_true.1 hall j (List.mem_range.2 hj)) hF (flowOk_of hB) ⟨undef, by simp⟩
    (fun i o hi ho => stepD_congr (D := D) (fun j hj => by simp; omega) (hD i o (by omega) hi ho)) (fun w' hw' => by rw [hact, hheld]; exact hE w' hw') _ _ _ _ ?_ ?_ ?_)
  · simp
  · simp
  · refine ⟨hF0, by simp, rfl, rfl, fun _ _ => rfl, fun k hk => ?_, fun j o ho hj => ?_⟩
    · simp [Array.getElem?_replicate] at hk; split at hk <;> simp at hk
    · simp [Array.getElem?_replicate] at hj; split at hj <;> simp at hj
/-- .. in a world that grows. -/
theorem wp_region_last_ext {id : Nat} {Q' : Exit → Act → World → Prop} {a : Act} {w : World} {l : List Oper} (Ws Ms : List Nat) {N : Nat} (n : Nat) {on : Oper} (hm : P.follows .mixedOrders = true) (hN : a.tmps.size = N) (hlen : l.length = n + 1) (hon : l[n]? = some on)
    (hB : flowB l.toArray (ancOf l.toArray) Ws Ms N = true) (hL : lastB (l.take n) on = true)
    (h : Flow P l.toArray (extF w) (ancOf l.toArray) Ws Ms (fun a w => wpList P l.toArray Q' [on] a w) (l.take n) 0 a []) : (Code.region id l.toArray true).wp P Q' a w :=
  wp_region_flow_last hm hN hlen hon hB hL (ext_drew w) (fun _ u ⟨x, hx⟩ => by rw [hx]; exact ext_ext w x u) h
/-- A world that grows, and writes one block. -/
abbrev rowF (w0 : World) (row : Option Nat) : World → Prop := fun w' => w0.grownBy w' row
theorem rowF_ext {w0 : World} {row : Option Nat} (w : World) (u : Ext) (h : rowF w0 row w) : rowF w0 row (w.ext u) :=
  ⟨h.os, h.tape, h.output, Nat.le_trans h.size (by rw [size_ext]; omega), fun i hi hne => (ext_block w u i (Nat.lt_of_lt_of_le hi h.size)).trans (h.block i hi hne)⟩
theorem rowF_drew (w0 : World) (row : Option Nat) : rowF w0 row w0.drew := ⟨rfl, rfl, rfl, Nat.le_refl _, fun _ _ _ => rfl⟩
theorem wp_region_last_row {id : Nat} {Q' : Exit → Act → World → Prop} {a : Act} {w : World} {l : List Oper} (row : Option Nat) (Ws Ms : List Nat) {N : Nat} (n : Nat) {on : Oper} (hm : P.follows .mixedOrders = true) (hN : a.tmps.size = N) (hlen : l.length = n + 1) (hon : l[n]? = some on)
    (hB : flowB l.toArray (ancOf l.toArray) Ws Ms N = true) (hL : lastB (l.take n) on = true)
    (h : Flow P l.toArray (rowF w row) (ancOf l.toArray) Ws Ms (fun a w => wpList P l.toArray Q' [on] a w) (l.take n) 0 a []) : (Code.region id l.toArray true).wp P Q' a w :=
  wp_region_flow_last hm hN hlen hon hB hL (rowF_drew w row) (fun w' u h => rowF_ext w' u h) h
theorem flow_heldF (post : Post) (ms : List Bool) {o : Oper} {rest : List Oper} {k : Nat} {a : Act} {H : List HeldP} (hms : maskOf ops o H = ms) (hst : stable F (Ms.contains k) post) (h1 : ∀ w, F w → useH ms H a w fun a' => HeldAt P ops F (Ws.contains k) o a' post w)
    (h2 : Flow P ops F an Ws Ms Q rest (k + 1) a (H ++ [⟨k, o.dst, post⟩])) : Flow P ops F an Ws Ms Q (o :: rest) k a H := flow_held ms post hms hst h1 h2
/-- a slice that reads as xs, in blocks from B on -/
def SlB {α : Type} [Rep α] (B n : Nat) (xs : List α) : Post := fun v w => ∃ A c, v = .slice A n c ∧ Sl w (fun b => B ≤ b) A n c xs
theorem SlB.stable_ {α : Type} [Rep α] {B n : Nat} {xs : List α} {mem : Bool} (hm : mem = true) : stable F mem (SlB B n xs) :=
  stable_mem hm fun _ _ u ⟨A, c, hv, h⟩ => ⟨A, c, hv, h.ext u⟩
theorem OwnL.slo {α : Type} [Rep α] {w : World} {base : Nat} {T : TypeId} {S S' : Nat → Prop} {xs : List α} {A : Option Addr} {n c : Nat} (h : OwnL w base T S (.slice A n c) xs) (hS' : ∀ b, b < w.heap.size → (S b ∨ (Value.slice A n c).ownBlock = some b) → S' b) : Sl w S' A n c xs := by
  obtain ⟨vals, ⟨h1, h⟩, hr, _⟩ := h
  rcases h with ⟨e, h0⟩ | ⟨g, cap, cur, e, hg, hh, hnc, hcm, hsz, htake⟩
  · injection e with e1 e2 e3
    subst e1 e2 e3
    obtain rfl : xs = [] := List.eq_nil_of_length_eq_zero h0
    exact Sl.nil
  · injection e with e1 e2 e3
    subst e1 e2 e3
    have hgl : g < w.heap.size := (Array.getElem?_eq_some_iff.1 hh).1
    refine ⟨rfl, hnc, hcm, fun h => by simp at h, fun _ => ⟨g, 0, rfl, hgl, hS' g hgl (.inr rfl), fun i x hi => ?_⟩⟩
    obtain ⟨us, hus, hc⟩ := hr.at_ hi
    refine ⟨us, Rep.more hus (fun b hb h => hS' b hb (.inl h)), fun j u hj => ?_⟩
    rw [cell_of_row w g _ cur T (0, 0) hh]
    have := hc j u hj
    rw [← htake, List.getElem?_take] at this
    split at this
    · simpa using this
    · cases this
end
end Go.Proofs.Ytbppamjogdjfkaa
