/- Regions that draw their order: operations ahead of which one or more write what others do not read, then a tail that is done in order: the law. -/
import Derived.Test.YtbppamjogdjfkaaFlow6
set_option linter.unusedSimpArgs false
set_option linter.unusedVariables false
namespace Go.Proofs.Ytbppamjogdjfkaa
open Go.RowKit

section
variable {P : Program} {ops : Array Oper} {F G0 : World → Prop} {Ws Ms : List Nat} {an : List (List Nat)} {Q : Act → World → Prop}
/-- All that stand ahead of the tail have come up. -/
theorem FlowInv.endT {a0 : Act} {D : Nat → Kind} {listed : Array Bool} {a : Act} {w : World} {n : Nat} (ok : FlowOk ops an Ws Ms a0.tmps.size) (I : FlowInv ops F an Ws Ms a0 D listed a w) (hn : n ≤ ops.size)
    (hfull : ∀ j, j < n → listed.getD j false = true) (hout : ∀ d, (∀ (j : Nat) (o : Oper), j < n → ops[j]? = some o → o.dst ≠ some d) → a.tmps[d]? = a0.tmps[d]?)
    (h : endH (liveOf an Ws Ms (heldD ops D n)) (heldD ops D n) (actD ops a0 D n) w fun a' => Q a' w) : Q a w := by
  have hsz := actD_size (ops := ops) (a0 := a0) (D := D) n
  have hout' := endH_out a _ _ _ (by simp [liveOf]) (fun p hp h1 => ?_) h
  · have hsp := putsFrom_spec a ((heldD ops D n).map (·.dst)) (actD ops a0 D n) (by rw [hsz.1, I.size])
    have : a = putsFrom a ((heldD ops D n).map (·.dst)) (actD ops a0 D n) := by
      refine act_ext (by rw [hsp.1, hsz.1, I.size]) (by rw [hsp.2.1, hsz.2, I.defs]) fun d hd => ?_
      rw [I.size] at hd
      rw [hsp.2.2 d (by rw [hsz.1]; exact hd)]
      split
      · rfl
      · rename_i hno
        by_cases hex : ∃ (j : Nat) (oj : Oper), j < n ∧ ops[j]? = some oj ∧ oj.dst = some d
        · obtain ⟨j, oj, hjn, hj, hjd⟩ := hex
          cases hDj : D j with
          | inl c =>
            rw [actD_known hd hj hjd hDj (fun i o' hi h' => ok.one j oj d hj hjd i o' hi h') _ hjn]
            obtain ⟨v, hv, hx⟩ := I.got j oj hj (hfull j hjn) (.inl ⟨c, hDj⟩)
            rw [hDj] at hv
            have := hx d hjd
            rw [show v = c from hv] at this
            have hb : d < a.tmps.size := by rw [I.size]; exact hd
            rw [Array.getElem?_eq_getElem hb]
            simp [valOf, hb] at this
            rw [this]
          | inr p =>
            exact absurd (List.mem_map.2 ⟨⟨j, oj.dst, p⟩, (heldD_mem _ _).2 ⟨hjn, oj, hj, rfl, hDj⟩, hjd⟩) hno
        · rw [actD_other hd _ (fun j oj hjn hj hjd => (hex ⟨j, oj, hjn, hj, hjd⟩).elim)]
          exact hout d fun j oj hjn hj hjd => hex ⟨j, oj, hjn, hj, hjd⟩
    rw [this]; exact hout'
  · obtain ⟨i, hi⟩ := List.mem_iff_getElem?.1 hp
    rw [List.getElem?_zip_eq_some] at hi
    obtain ⟨hi1, hi2⟩ := hi
    have hmem := List.mem_iff_getElem?.2 ⟨i, hi2⟩
    rw [liveOf, List.getElem?_map, hi2] at hi1
    simp only [Option.map_some, Option.some.injEq] at hi1
    obtain ⟨hlt, oj, hj, hjd, hDj⟩ := (heldD_mem _ _).1 hmem
    rw [h1] at hi1
    have hlive : liveAt an Ws Ms D listed p.2.idx := .inr fun hm i hi hli => by
      unfold liveB at hi1
      rw [List.contains_iff_mem.2 hm] at hi1
      simp only [Bool.not_true, Bool.false_or] at hi1
      have := List.all_eq_true.1 hi1 i hi
      simp only [Bool.or_eq_true, beq_iff_eq, List.contains_iff_mem] at this
      rcases this with h | h
      · exact .inl h
      · exact .inr h
    obtain ⟨v, hv, hx⟩ := I.got _ oj hj (hfull _ hlt) hlive
    rw [hDj] at hv
    exact ⟨v, hv, fun t ht => hx t (by rw [← hjd]; exact ht)⟩
theorem flow_anyT {a0 : Act} {D : Nat → Kind} {Q' : Exit → Act → World → Prop} {n : Nat} {tl : List Oper} (hn : ops.size = n + tl.length) (htl : ∀ j, tl[j]? = ops[n + j]?) (hall : ∀ t, n ≤ t → t < ops.size → ∀ j, j < n → j ∈ an.getD t [])
    (hseq : Region.seqB .any ops tl.length n (headsOf n tl.length) = true)
    (hF : ∀ w (u : Ext), F w → F (w.ext u)) (hG : ∀ w (u : Ext), G0 w → G0 (w.ext u)) (ok : FlowOk ops an Ws Ms a0.tmps.size)
    (hDn : ∀ t, n ≤ t → ∃ c, D t = .inl c) (hD : ∀ (i : Nat) (o : Oper), i < n → ops[i]? = some o → stepG P ops F G0 an Ws Ms a0 D i o)
    (hE : ∀ w, F w → endH (liveOf an Ws Ms (heldD ops D n)) (heldD ops D n) (actD ops a0 D n) w fun a' => wpList P ops Q' tl a' w) :
    ∀ (fuel : Nat) (listed : Array Bool) (a : Act) (w : World), listed.toList.count false ≤ fuel → (∀ t, n ≤ t → t < ops.size → listed.getD t true = false) → FlowInv ops F an Ws Ms a0 D listed a w → Tame Ws G0 listed w → wpAny P .any ops Q' fuel listed a w := by
  have hsts : ∀ (j : Nat) (o : Oper), ops[j]? = some o → ∀ p, D j = .inr p → stable F (Ms.contains j) p := fun j o ho p hp => by
    rcases Nat.lt_or_ge j n with h | h
    · have := hD j o h ho
      unfold stepG at this
      rw [hp] at this
      exact this.1
    · obtain ⟨c, hc⟩ := hDn j h
      rw [hc] at hp; cases hp
  have listedlt : ∀ (listed : Array Bool) (a : Act) (w : World), (∀ t, n ≤ t → t < ops.size → listed.getD t true = false) → FlowInv ops F an Ws Ms a0 D listed a w → ∀ j, listed.getD j false = true → j < n := fun listed a w hT I j hj => by
    rcases Nat.lt_or_ge j n with h | h
    · exact h
    · exfalso
      by_cases hjs : j < ops.size
      · have := hT j h hjs
        rw [getD_ff this] at hj; cases hj
      · simp [Array.getElem?_eq_none (show listed.size ≤ j by rw [I.lsz]; omega)] at hj
  intro fuel
  induction fuel with
  | zero =>
    intro listed a w hc hT I _
    have hfull : ∀ j, j < listed.size → listed.getD j false = true := fun j hj => by
      cases hl : listed.getD j false with
      | true => rfl
      | false =>
        have : false ∈ listed.toList := by
          have h2 : listed[j] = false := by simpa [hj] using hl
          rw [← h2]; simp
        have := List.count_pos_iff.2 this
        omega
    have htl0 : tl = [] := by
      cases tl with
      | nil => rfl
      | cons o l =>
        have h1 := hT n (Nat.le_refl _) (by rw [hn]; simp)
        have h2 := hfull n (by rw [I.lsz, hn]; simp)
        rw [getD_ff h1] at h2; cases h2
    subst htl0
    have hnil : Region.ready .any ops listed = [] := by
      rw [List.eq_nil_iff_forall_not_mem]
      intro j hj
      obtain ⟨h0, o, ho, _⟩ := mem_ready.1 hj
      have := hfull j (by rw [I.lsz]; exact (Array.getElem?_eq_some_iff.1 ho).1)
      rw [getD_ff h0] at this; cases this
    refine ⟨hnil, ?_⟩
    have hn' : ops.size = n := by simpa using hn
    exact I.endT (Q := fun a w => wpList P ops Q' [] a w) ok (by omega) (fun j hj => hfull j (by rw [I.lsz]; omega)) (fun d hd => I.out d fun j o hj hl => hd j o (listedlt listed a w hT I j hl) hj) (hE w I.hF)
  | succ fuel ih =>
    intro listed a w hc hT I hTm
    by_cases hheads : ∀ j, j < n → listed.getD j false = true
    · have hlist : listed = headsOf n tl.length := by
        apply Array.ext
        · rw [I.lsz, hn]; simp [headsOf]
        · intro j h1 h2
          simp only [headsOf, List.getElem_toArray, List.getElem_map, List.getElem_range]
          by_cases hj : j < n
          · have := hheads j hj
            simp [h1] at this
            rw [this]; simp [hj]
          · have := hT j (by omega) (by rw [← I.lsz]; exact h1)
            simp [h1] at this
            rw [this]; simp [hj]
      have hw := I.endT (Q := fun a w => wpList P ops Q' tl a w) ok (by omega) hheads (fun d hd => I.out d fun j o hj hl => hd j o (listedlt listed a w hT I j hl) hj) (hE w I.hF)
      have hcount : tl.length ≤ fuel + 1 := by
        refine Nat.le_trans ?_ hc
        rw [hlist]
        simp only [headsOf]
        rw [List.count_eq_countP, List.countP_map]
        have e : List.range (n + tl.length) = List.range n ++ (List.range tl.length).map (n + ·) := List.range_add
        rw [e, List.countP_append, List.countP_map]
        have : List.countP (((fun x => x == false) ∘ fun j => decide (j < n)) ∘ fun x => n + x) (List.range tl.length) = (List.range tl.length).length := by
          rw [List.countP_eq_length]; intro x _; simp
        rw [this]; simp
      obtain ⟨f, hf⟩ : ∃ f, fuel + 1 = tl.length + f := ⟨fuel + 1 - tl.length, by omega⟩
      rw [hf, hlist]
      exact wpAny_of_seq' tl f n _ a w htl hseq hw
    · have hnr : Region.ready .any ops listed ≠ [] := fun h => hheads fun j hj => I.full ok h j (by omega)
      refine ⟨fun h => (hnr h).elim, fun k hk => ?_⟩
      obtain ⟨h0, o, ho, hedges⟩ := mem_ready.1 hk
      have hks := (Array.getElem?_eq_some_iff.1 ho).1
      have hkn : k < n := by
        rcases Nat.lt_or_ge k n with h | h
        · exact h
        · exfalso
          refine hheads fun j hj => ?_
          obtain ⟨_, e, he, hb, hje⟩ := ok.low k o ho j (hall k h hks j hj)
          have := hedges e he hb
          rcases hje with rfl | hje
          · exact this
          · exact I.closed _ this j hje
      refine I.opG hF hG ok hsts (fun o ho => hD k o hkn ho) hTm hk fun a' w' I' hT' => ih _ a' w' ?_ (fun t ht hts => by rw [getD_set_ne true (by omega)]; exact hT t ht hts) I' hT'
      have h0 := (mem_ready.1 hk).1
      have hlt : k < listed.size := by rw [I.lsz]; exact hks
      simp [hlt] at h0
      rw [Array.toList_setIfInBounds]
      have hlt' : k < listed.toList.length := by simpa using hlt
      have hg : listed.toList[k] = false := by simpa using h0
      rw [List.set_eq_take_append_cons_drop]
      rw [if_pos hlt', List.count_append, List.count_cons_of_ne (by simp)]
      have hsplit : listed.toList = listed.toList.take k ++ false :: listed.toList.drop (k + 1) := by
        rw [← hg, List.getElem_cons_drop, List.take_append_drop]
      have := congrArg (List.count false) hsplit
      rw [List.count_append, List.count_cons_self] at this
      omega
/-- **THE LAW**: from operation n on they are done in order, behind all others; ahead of them those in Ws may write. -/
theorem wp_region_G_tail {id : Nat} {Q' : Exit → Act → World → Prop} {a : Act} {w : World} {l : List Oper} (F G0 : World → Prop) (Ws Ms : List Nat) {N : Nat} (n : Nat) (hm : P.follows .mixedOrders = true) (hN : a.tmps.size = N)
    (hB : flowB l.toArray (ancOf l.toArray) Ws Ms N = true) (hT : tailB l n = true) (hF : ∀ w (u : Ext), F w → F (w.ext u)) (hG : ∀ w (u : Ext), G0 w → G0 (w.ext u)) (hF0 : F w.drew) (hG0 : G0 w.drew)
    (h : FlowG P l.toArray F G0 (ancOf l.toArray) Ws Ms (fun a w => wpList P l.toArray Q' (l.drop n) a w) (l.take n) 0 a []) : (Code.region id l.toArray true).wp P Q' a w := by
  subst hN
  unfold tailB at hT
  simp only [Bool.and_eq_true, decide_eq_true_eq] at hT
  obtain ⟨⟨hnl, hall⟩, hseq⟩ := hT
  have hlen : (l.take n).length = n := by rw [List.length_take]; omega
  have hdl : (l.drop n).length = l.length - n := by simp
  obtain ⟨D, hD0, hD, hE⟩ := flow_dataG (ops := l.toArray) (a0 := a) (l.take n) 0 (fun _ => .inl undef) (fun j hj => by rw [hlen] at hj; simp [List.getElem?_take, hj]) h
  simp only [Nat.zero_add, hlen] at hD hE
  have hsame : ∀ i, i < n → (fun i => if n ≤ i then (.inl undef : Kind) else D i) i = D i := fun i hi => by simp [Nat.not_le.2 hi]
  have hact := actD_congr (ops := l.toArray) (a0 := a) n hsame
  have hheld := heldD_congr (ops := l.toArray) n hsame
  refine wp_region_any hm (flow_anyT (D := fun i => if n ≤ i then .inl undef else D i) (n := n) (tl := l.drop n) (by simp; omega) (fun j => by simp [List.getElem?_drop]) (fun t ht hts j hj => ?_) (by rw [hdl]; exact hseq) hF hG (flowOk_of hB) (fun t ht => ⟨undef, by simp [ht]⟩)
    (fun i o hi ho => stepG_congr (D := D) (fun j hj => by simp; omega) (hD i o (by omega) hi ho)) (fun w' hw' => by rw [hact, hheld]; exact hE w' hw') _ _ _ _ ?_ ?_ ?_ ?_)
  · have h1 := List.all_eq_true.1 hall (t - n) (List.mem_range.2 (by simp at hts; omega))
    have h2 := List.all_eq_true.1 h1 j (List.mem_range.2 hj)
    rw [show n + (t - n) = t by omega] at h2
    simpa using h2
  · simp
  · intro t _ hts
    simp at hts
    simp [hts]
  · refine ⟨hF0, by simp, rfl, rfl, fun _ _ => rfl, fun k hk => ?_, fun j o ho hj => ?_⟩
    · simp [Array.getElem?_replicate] at hk; split at hk <;> simp at hk
    · simp [Array.getElem?_replicate] at hj; split at hj <;> simp at hj
  · intro _; exact hG0
section
variable {o : Oper} {rest : List Oper} {k : Nat} {a : Act} {H : List HeldP} {w0 : World}
/-- Known wherever it comes up. -/
theorem flowG_knownF (hms : (maskOf ops o H).all (! ·) = true)
    (h : ∀ K : Act → Prop, (∀ a, FlowG P ops F G0 an Ws Ms Q rest (k + 1) a H → K a) → ∃ c, (∀ w, F w → KnownAt P ops o a c w) ∧ K (a.put o.dst c)) : FlowG P ops F G0 an Ws Ms Q (o :: rest) k a H := by
  obtain ⟨c, h1, h2⟩ := h _ fun _ h => h
  exact .inl ⟨c, fun w hw => useH_none (h1 w hw.1) _ _ hms, h2⟩
/-- Held wherever it comes up. -/
theorem flowG_keepF (ms : List Bool) (post : Post) (hms : maskOf ops o H = ms) (hst : stable F (Ms.contains k) post)
    (h1 : ∀ w, F w → useH ms H a w fun a' => HeldAt P ops F (Ws.contains k) o a' post w)
    (h2 : FlowG P ops F G0 an Ws Ms Q rest (k + 1) a (H ++ [⟨k, o.dst, post⟩])) : FlowG P ops F G0 an Ws Ms Q (o :: rest) k a H :=
  .inr ⟨post, hst, fun w hw => hms ▸ h1 w hw.1, h2⟩
end
end
end Go.Proofs.Ytbppamjogdjfkaa
