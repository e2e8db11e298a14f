/- Regions that draw their order: operations ahead of which one or more write what others do not read, then a tail that is done in order: the law. Regions that draw their order, in which one operation makes a variable that later ones write and read: what it is, is chosen as it comes up. -/
import Derived.Test.YtppkanniefignaaGreatDoorG47
import Derived.Test.YtppkanniefignaaGreatDoorG3
set_option linter.unusedSimpArgs false
set_option linter.unusedVariables false
namespace Go.Proofs.YtppkanniefignaaGreatDoor
open Go.RowKit
section
variable {P : Program} {ops : Array Oper} {F G0 : World → Prop} {Ws Ms : List Nat} {an : List (List Nat)} {Q : Act → World → Prop}
theorem FlowInv.endT {a0 : Act} {D : Nat → Kind} {listed : Array Bool} {a : Act} {w : World} {n : Nat} (ok : FlowOk ops an Ws Ms a0.tmps.size) (I : FlowInv ops F an Ws Ms a0 D listed a w) (hn : n ≤ ops.size)
  (hfull : ∀ j, j < n → listed.getD j false = true) (hout : ∀ d, (∀ (j : Nat) (o : Oper), j < n → ops[j]? = some o → o.dst ≠ some d) → a.tmps[d]? = a0.tmps[d]?)
  (h : endH (liveOf an Ws Ms (heldD ops D n)) (heldD ops D n) (actD ops a0 D n) w fun a' => Q a' w) : Q a w := by
 have hsz := actD_size (ops := ops) (a0 := a0) (D := D) n
 have hout' := endH_out a _ _ _ (by simp [liveOf]) (fun p hp h1 => ?_) h
 ·have hsp := putsFrom_spec a ((heldD ops D n).map (·.dst)) (actD ops a0 D n) (by rw [hsz.1, I.size])
  have : a = putsFrom a ((heldD ops D n).map (·.dst)) (actD ops a0 D n) := by
   refine act_ext (by rw [hsp.1, hsz.1, I.size]) (by rw [hsp.2.1, hsz.2, I.defs]) fun d hd => ?_
   rw [I.size] at hd
   rw [hsp.2.2 d (by rw [hsz.1]; exact hd)]
   split
   ·rfl
   ·rename_i hno
    by_cases hex : ∃ (j : Nat) (oj : Oper), j < n ∧ ops[j]? = some oj ∧ oj.dst = some d
    ·obtain ⟨j, oj, hjn, hj, hjd⟩ := hex
     cases hDj : D j with
     | inl c =>
      rw [actD_known hd hj hjd hDj (fun i o' hi h' => ok.one j oj d hj hjd i o' hi h') _ hjn]
      obtain ⟨v, hv, hx⟩ := I.got j oj hj (hfull j hjn) (.inl ⟨c, hDj⟩)
      rw [hDj] at hv
      have := hx d hjd
      rw [show v = c from hv] at this
      have hb : d < a.tmps.size := by rw [I.size]; exact hd
      rw [Array.getElem?_eq_getElem hb]
      simp [valOf, hb] at this
      rw [this]
     | inr p =>
      exact absurd (List.mem_map.2 ⟨⟨j, oj.dst, p⟩, (heldD_mem _ _).2 ⟨hjn, oj, hj, rfl, hDj⟩, hjd⟩) hno
    ·rw [actD_other hd _ (fun j oj hjn hj hjd => (hex ⟨j, oj, hjn, hj, hjd⟩).elim)]
     exact hout d fun j oj hjn hj hjd => hex ⟨j, oj, hjn, hj, hjd⟩
  rw [this]; exact hout'
 ·obtain ⟨i, hi⟩ := List.mem_iff_getElem?.1 hp
  rw [List.getElem?_zip_eq_some] at hi
  obtain ⟨hi1, hi2⟩ := hi
  have hmem := List.mem_iff_getElem?.2 ⟨i, hi2⟩
  rw [liveOf, List.getElem?_map, hi2] at hi1
  simp only [Option.map_some, Option.some.injEq] at hi1
  obtain ⟨hlt, oj, hj, hjd, hDj⟩ := (heldD_mem _ _).1 hmem
  rw [h1] at hi1
  have hlive : liveAt an Ws Ms D listed p.2.idx := .inr fun hm i hi hli => by
   unfold liveB at hi1
   rw [List.contains_iff_mem.2 hm] at hi1
   simp only [Bool.not_true, Bool.false_or] at hi1
   have := List.all_eq_true.1 hi1 i hi
   simp only [Bool.or_eq_true, beq_iff_eq, List.contains_iff_mem] at this
   rcases this with h | h
   ·exact .inl h
   ·exact .inr h
  obtain ⟨v, hv, hx⟩ := I.got _ oj hj (hfull _ hlt) hlive
  rw [hDj] at hv
  exact ⟨v, hv, fun t ht => hx t (by rw [← hjd]; exact ht)⟩
theorem flow_anyT {a0 : Act} {D : Nat → Kind} {Q' : Exit → Act → World → Prop} {n : Nat} {tl : List Oper} (hn : ops.size = n + tl.length) (htl : ∀ j, tl[j]? = ops[n + j]?) (hall : ∀ t, n ≤ t → t < ops.size → ∀ j, j < n → j ∈ an.getD t [])
  (hseq : Region.seqB .any ops tl.length n (headsOf n tl.length) = true)
  (hF : ∀ w (u : Ext), F w → F (w.ext u)) (hG : ∀ w (u : Ext), G0 w → G0 (w.ext u)) (ok : FlowOk ops an Ws Ms a0.tmps.size)
  (hDn : ∀ t, n ≤ t → ∃ c, D t = .inl c) (hD : ∀ (i : Nat) (o : Oper), i < n → ops[i]? = some o → stepG P ops F G0 an Ws Ms a0 D i o)
  (hE : ∀ w, F w → endH (liveOf an Ws Ms (heldD ops D n)) (heldD ops D n) (actD ops a0 D n) w fun a' => wpList P ops Q' tl a' w) :
  ∀ (fuel : Nat) (listed : Array Bool) (a : Act) (w : World), listed.toList.count false ≤ fuel → (∀ t, n ≤ t → t < ops.size → listed.getD t true = false) → FlowInv ops F an Ws Ms a0 D listed a w → Tame Ws G0 listed w → wpAny P .any ops Q' fuel listed a w := by
 have hsts : ∀ (j : Nat) (o : Oper), ops[j]? = some o → ∀ p, D j = .inr p → stable F (Ms.contains j) p := fun j o ho p hp => by
  rcases Nat.lt_or_ge j n with h | h
  ·have := hD j o h ho
   unfold stepG at this
   rw [hp] at this
   exact this.1
  ·obtain ⟨c, hc⟩ := hDn j h
   rw [hc] at hp; cases hp
 have listedlt : ∀ (listed : Array Bool) (a : Act) (w : World), (∀ t, n ≤ t → t < ops.size → listed.getD t true = false) → FlowInv ops F an Ws Ms a0 D listed a w → ∀ j, listed.getD j false = true → j < n := fun listed a w hT I j hj => by
  rcases Nat.lt_or_ge j n with h | h
  ·exact h
  ·exfalso
   by_cases hjs : j < ops.size
   ·have := hT j h hjs
    rw [getD_ff this] at hj; cases hj
   ·simp [Array.getElem?_eq_none (show listed.size ≤ j by rw [I.lsz]; omega)] at hj
 intro fuel
 induction fuel with
 | zero =>
  intro listed a w hc hT I _
  have hfull : ∀ j, j < listed.size → listed.getD j false = true := fun j hj => by
   cases hl : listed.getD j false with
   | true => rfl
   | false =>
    have : false ∈ listed.toList := by
     have h2 : listed[j] = false := by simpa [hj] using hl
     rw [← h2]; simp
    have := List.count_pos_iff.2 this
    omega
  have htl0 : tl = [] := by
   cases tl with
   | nil => rfl
   | cons o l =>
    have h1 := hT n (Nat.le_refl _) (by rw [hn]; simp)
    have h2 := hfull n (by rw [I.lsz, hn]; simp)
    rw [getD_ff h1] at h2; cases h2
  subst htl0
  have hnil : Region.ready .any ops listed = [] := by
   rw [List.eq_nil_iff_forall_not_mem]
   intro j hj
   obtain ⟨h0, o, ho, _⟩ := mem_ready.1 hj
   have := hfull j (by rw [I.lsz]; exact (Array.getElem?_eq_some_iff.1 ho).1)
   rw [getD_ff h0] at this; cases this
  refine ⟨hnil, ?_⟩
  have hn' : ops.size = n := by simpa using hn
  exact I.endT (Q := fun a w => wpList P ops Q' [] a w) ok (by omega) (fun j hj => hfull j (by rw [I.lsz]; omega)) (fun d hd => I.out d fun j o hj hl => hd j o (listedlt listed a w hT I j hl) hj) (hE w I.hF)
 | succ fuel ih =>
  intro listed a w hc hT I hTm
  by_cases hheads : ∀ j, j < n → listed.getD j false = true
  ·have hlist : listed = headsOf n tl.length := by
    apply Array.ext
    ·rw [I.lsz, hn]; simp [headsOf]
    ·intro j h1 h2
     simp only [headsOf, List.getElem_toArray, List.getElem_map, List.getElem_range]
     by_cases hj : j < n
     ·have := hheads j hj
      simp [h1] at this
      rw [this]; simp [hj]
     ·have := hT j (by omega) (by rw [← I.lsz]; exact h1)
      simp [h1] at this
      rw [this]; simp [hj]
   have hw := I.endT (Q := fun a w => wpList P ops Q' tl a w) ok (by omega) hheads (fun d hd => I.out d fun j o hj hl => hd j o (listedlt listed a w hT I j hl) hj) (hE w I.hF)
   have hcount : tl.length ≤ fuel + 1 := by
    refine Nat.le_trans ?_ hc
    rw [hlist]
    simp only [headsOf]
    rw [List.count_eq_countP, List.countP_map]
    have e : List.range (n + tl.length) = List.range n ++ (List.range tl.length).map (n + ·) := List.range_add
    rw [e, List.countP_append, List.countP_map]
    have : List.countP (((fun x => x == false) ∘ fun j => decide (j < n)) ∘ fun x => n + x) (List.range tl.length) = (List.range tl.length).length := by
     rw [List.countP_eq_length]; intro x _; simp
    rw [this]; simp
   obtain ⟨f, hf⟩ : ∃ f, fuel + 1 = tl.length + f := ⟨fuel + 1 - tl.length, by omega⟩
   rw [hf, hlist]
   exact wpAny_of_seq' tl f n _ a w htl hseq hw
  ·have hnr : Region.ready .any ops listed ≠ [] := fun h => hheads fun j hj => I.full ok h j (by omega)
   refine ⟨fun h => (hnr h).elim, fun k hk => ?_⟩
   obtain ⟨h0, o, ho, hedges⟩ := mem_ready.1 hk
   have hks := (Array.getElem?_eq_some_iff.1 ho).1
   have hkn : k < n := by
    rcases Nat.lt_or_ge k n with h | h
    ·exact h
    ·exfalso
     refine hheads fun j hj => ?_
     obtain ⟨_, e, he, hb, hje⟩ := ok.low k o ho j (hall k h hks j hj)
     have := hedges e he hb
     rcases hje with rfl | hje
     ·exact this
     ·exact I.closed _ this j hje
   refine I.opG hF hG ok hsts (fun o ho => hD k o hkn ho) hTm hk fun a' w' I' hT' => ih _ a' w' ?_ (fun t ht hts => by rw [getD_set_ne true (by omega)]; exact hT t ht hts) I' hT'
   have h0 := (mem_ready.1 hk).1
   have hlt : k < listed.size := by rw [I.lsz]; exact hks
   simp [hlt] at h0
   rw [Array.toList_setIfInBounds]
   have hlt' : k < listed.toList.length := by simpa using hlt
   have hg : listed.toList[k] = false := by simpa using h0
   rw [List.set_eq_take_append_cons_drop]
   rw [if_pos hlt', List.count_append, List.count_cons_of_ne (by simp)]
   have hsplit : listed.toList = listed.toList.take k ++ false :: listed.toList.drop (k + 1) := by
    rw [← hg, List.getElem_cons_drop, List.take_append_drop]
   have := congrArg (List.count false) hsplit
   rw [List.count_append, List.count_cons_self] at this
   omega
theorem wp_region_G_tail {id : Nat} {Q' : Exit → Act → World → Prop} {a : Act} {w : World} {l : List Oper} (F G0 : World → Prop) (Ws Ms : List Nat) {N : Nat} (n : Nat) (hm : P.follows .mixedOrders = true) (hN : a.tmps.size = N)
  (hB : flowB l.toArray (ancOf l.toArray) Ws Ms N = true) (hT : tailB l n = true) (hF : ∀ w (u : Ext), F w → F (w.ext u)) (hG : ∀ w (u : Ext), G0 w → G0 (w.ext u)) (hF0 : F w.drew) (hG0 : G0 w.drew)
  (h : FlowG P l.toArray F G0 (ancOf l.toArray) Ws Ms (fun a w => wpList P l.toArray Q' (l.drop n) a w) (l.take n) 0 a []) : (Code.region id l.toArray true).wp P Q' a w := by
 subst hN
 unfold tailB at hT
 simp only [Bool.and_eq_true, decide_eq_true_eq] at hT
 obtain ⟨⟨hnl, hall⟩, hseq⟩ := hT
 have hlen : (l.take n).length = n := by rw [List.length_take]; omega
 have hdl : (l.drop n).length = l.length - n := by simp
 obtain ⟨D, hD0, hD, hE⟩ := flow_dataG (ops := l.toArray) (a0 := a) (l.take n) 0 (fun _ => .inl undef) (fun j hj => by rw [hlen] at hj; simp [List.getElem?_take, hj]) h
 simp only [Nat.zero_add, hlen] at hD hE
 have hsame : ∀ i, i < n → (fun i => if n ≤ i then (.inl undef : Kind) else D i) i = D i := fun i hi => by simp [Nat.not_le.2 hi]
 have hact := actD_congr (ops := l.toArray) (a0 := a) n hsame
 have hheld := heldD_congr (ops := l.toArray) n hsame
 refine wp_region_any hm (flow_anyT (D := fun i => if n ≤ i then .inl undef else D i) (n := n) (tl := l.drop n) (by simp; omega) (fun j => by simp [List.getElem?_drop]) (fun t ht hts j hj => ?_) (by rw [hdl]; exact hseq) hF hG (flowOk_of hB) (fun t ht => ⟨undef, by simp [ht]⟩)
  (fun i o hi ho => stepG_congr (D := D) (fun j hj => by simp; omega) (hD i o (by omega) hi ho)) (fun w' hw' => by rw [hact, hheld]; exact hE w' hw') _ _ _ _ ?_ ?_ ?_ ?_)
 ·have h1 := List.all_eq_true.1 hall (t - n) (List.mem_range.2 (by simp at hts; omega))
  have h2 := List.all_eq_true.1 h1 j (List.mem_range.2 hj)
  rw [show n + (t - n) = t by omega] at h2
  simpa using h2
 ·simp
 ·intro t _ hts
  simp at hts
  simp [hts]
 ·refine ⟨hF0, by simp, rfl, rfl, fun _ _ => rfl, fun k hk => ?_, fun j o ho hj => ?_⟩
  ·simp [Array.getElem?_replicate] at hk; split at hk <;> simp at hk
  ·simp [Array.getElem?_replicate] at hj; split at hj <;> simp at hj
 ·intro _; exact hG0
section
variable {o : Oper} {rest : List Oper} {k : Nat} {a : Act} {H : List HeldP} {w0 : World}
theorem flowG_knownF (hms : (maskOf ops o H).all (! ·) = true)
  (h : ∀ K : Act → Prop, (∀ a, FlowG P ops F G0 an Ws Ms Q rest (k + 1) a H → K a) → ∃ c, (∀ w, F w → KnownAt P ops o a c w) ∧ K (a.put o.dst c)) : FlowG P ops F G0 an Ws Ms Q (o :: rest) k a H := by
 obtain ⟨c, h1, h2⟩ := h _ fun _ h => h
 exact .inl ⟨c, fun w hw => useH_none (h1 w hw.1) _ _ hms, h2⟩
theorem flowG_keepF (ms : List Bool) (post : Post) (hms : maskOf ops o H = ms) (hst : stable F (Ms.contains k) post)
  (h1 : ∀ w, F w → useH ms H a w fun a' => HeldAt P ops F (Ws.contains k) o a' post w)
  (h2 : FlowG P ops F G0 an Ws Ms Q rest (k + 1) a (H ++ [⟨k, o.dst, post⟩])) : FlowG P ops F G0 an Ws Ms Q (o :: rest) k a H :=
 .inr ⟨post, hst, fun w hw => hms ▸ h1 w hw.1, h2⟩
end
end
end Go.Proofs.YtppkanniefignaaGreatDoor
namespace Go.Proofs.YtppkanniefignaaGreatDoor
open Go.RowKit
section
variable {P : Program} {ops : Array Oper} {F : World → Prop} {Ws Ms : List Nat} {an : List (List Nat)} {Q : Act → World → Prop}
theorem stepG_of_D {G0 : World → Prop} {a0 : Act} {D : Nat → Kind} {k : Nat} {o : Oper} (h : stepD P ops F Ws Ms a0 D k o) : stepG P ops F G0 an Ws Ms a0 D k o := by
 unfold stepD at h
 unfold stepG
 cases hD : D k with
 | inl c => rw [hD] at h; exact fun w hw => h w hw.1
 | inr p => rw [hD] at h; exact ⟨h.1, fun w hw => h.2 w hw.1⟩
theorem ready_lt {listed : Array Bool} {k : Nat} (hk : k ∈ Region.ready .any ops listed) : k < listed.size ∧ listed.getD k false = false := by
 have h0 := (mem_ready.1 hk).1
 refine ⟨?_, getD_ff h0⟩
 rcases Nat.lt_or_ge k listed.size with h | h
 ·exact h
 ·simp [Array.getElem?_eq_none h] at h0
theorem count_set {listed : Array Bool} {k fuel : Nat} (hk : k ∈ Region.ready .any ops listed) (hc : listed.toList.count false ≤ fuel + 1) : (listed.setIfInBounds k true).toList.count false ≤ fuel := by
 have h0 := (mem_ready.1 hk).1
 have hlt := (ready_lt hk).1
 simp [hlt] at h0
 rw [Array.toList_setIfInBounds]
 have hlt' : k < listed.toList.length := by simpa using hlt
 have hg : listed.toList[k] = false := by simpa using h0
 rw [List.set_eq_take_append_cons_drop]
 rw [if_pos hlt', List.count_append, List.count_cons_of_ne (by simp)]
 have hsplit : listed.toList = listed.toList.take k ++ false :: listed.toList.drop (k + 1) := by
  rw [← hg, List.getElem_cons_drop, List.take_append_drop]
 have := congrArg (List.count false) hsplit
 rw [List.count_append, List.count_cons_self] at this
 omega
theorem ready_none {listed : Array Bool} (hc : listed.toList.count false ≤ 0) : Region.ready .any ops listed = [] := by
 rw [List.eq_nil_iff_forall_not_mem]
 intro k hk
 have h0 := (mem_ready.1 hk).1
 have hlt := (ready_lt hk).1
 simp [hlt] at h0
 have : false ∈ listed.toList := by rw [← h0]; simp
 have := List.count_pos_iff.2 this
 omega
theorem flow_anyB {a0 : Act} {D : Nat → Kind} {Q' : Exit → Act → World → Prop} {k0 : Nat} {c0 : Value} (hD0 : D k0 = .inl c0) (hF : ∀ w (u : Ext), F w → F (w.ext u)) (ok : FlowOk ops an Ws Ms a0.tmps.size)
  (hD : ∀ i o, i ≠ k0 → ops[i]? = some o → stepD P ops F Ws Ms a0 D i o)
  (hE : ∀ w, F w → endH (liveOf an Ws Ms (heldD ops D ops.size)) (heldD ops D ops.size) (actD ops a0 D ops.size) w fun a' => Q' .normal a' w) :
  ∀ (fuel : Nat) (listed : Array Bool) (a : Act) (w : World), listed.toList.count false ≤ fuel → listed.getD k0 false = true → FlowInv ops F an Ws Ms a0 D listed a w → wpAny P .any ops Q' fuel listed a w := by
 have hsts : ∀ (j : Nat) (o : Oper), ops[j]? = some o → ∀ p, D j = .inr p → stable F (Ms.contains j) p := fun j o ho p hp => by
  by_cases e : j = k0
  ·subst e; rw [hD0] at hp; cases hp
  ·have := hD j o e ho
   unfold stepD at this
   rw [hp] at this
   exact this.1
 intro fuel
 induction fuel with
 | zero => exact fun listed a w hc hk I => ⟨ready_none hc, I.end_ (Q := fun a w => Q' .normal a w) ok (ready_none hc) (hE w I.hF)⟩
 | succ fuel ih =>
  intro listed a w hc hk0 I
  refine ⟨fun hnil => I.end_ (Q := fun a w => Q' .normal a w) ok hnil (hE w I.hF), fun k hk => ?_⟩
  obtain ⟨h1, h2⟩ := ready_lt hk
  have e : k ≠ k0 := fun e => by rw [e, hk0] at h2; cases h2
  exact I.opG (G0 := fun _ => True) hF (fun _ _ _ => trivial) ok hsts (fun o ho => stepG_of_D (hD k o e ho)) (fun _ => trivial) hk fun a' w' I' _ => ih _ a' w' (count_set hk hc) ((getD_set h1).2 (.inr hk0)) I'
theorem flow_anyX {a0 : Act} {D0 : Nat → Kind} {D : Nat → Nat → Kind} {Fx : Nat → World → Prop} {Q' : Exit → Act → World → Prop} {k0 : Nat} (c0 : Nat → Value) (hks : k0 < ops.size) (hD00 : ∀ i, i < k0 → ∃ c, D0 i = .inl c) (hDk : ∀ x, D x k0 = .inl (c0 x)) (hsame : ∀ x j, j < k0 → D x j = D0 j) (hlate : ∀ j, k0 < j → j < ops.size → k0 ∈ an.getD j []) (hWs : ∀ j ∈ Ws, k0 < j ∧ j < ops.size)
  (hF : ∀ w (u : Ext), F w → F (w.ext u)) (hFx : ∀ x w (u : Ext), Fx x w → Fx x (w.ext u)) (ok : FlowOk ops an Ws Ms a0.tmps.size) (ok0 : FlowOk ops an Ws [k0] a0.tmps.size)
  (hpre : ∀ i o, i < k0 → ops[i]? = some o → ∀ c, D0 i = .inl c → ∀ w, F w → KnownAt P ops o (actD ops a0 D0 i) c w)
  (hk0 : ∀ o, ops[k0]? = some o → ∀ w, F w → HeldAt P ops F false o (actD ops a0 D0 k0) (fun v w => ∃ y, v = c0 y ∧ Fx y w) w)
  (hD : ∀ x i o, i ≠ k0 → ops[i]? = some o → stepD P ops (Fx x) Ws Ms a0 (D x) i o)
  (hE : ∀ x w, Fx x w → endH (liveOf an Ws Ms (heldD ops (D x) ops.size)) (heldD ops (D x) ops.size) (actD ops a0 (D x) ops.size) w fun a' => Q' .normal a' w) :
  ∀ (fuel : Nat) (listed : Array Bool) (a : Act) (w : World), listed.toList.count false ≤ fuel → (∀ j, listed.getD j false = true → j < k0) → FlowInv ops F an Ws [k0] a0 D0 listed a w → wpAny P .any ops Q' fuel listed a w := by
 have hh : ∀ i, i ≤ k0 → heldD ops D0 i = [] := fun i => by
  induction i with
  | zero => exact fun _ => rfl
  | succ i ih =>
   intro hi
   obtain ⟨c, hc⟩ := hD00 i (by omega)
   unfold heldD
   rw [hc]
   exact ih (by omega)
 have full : ∀ (listed : Array Bool) (a : Act) (w : World), (∀ j, listed.getD j false = true → j < k0) → FlowInv ops F an Ws [k0] a0 D0 listed a w → Region.ready .any ops listed ≠ [] := fun listed a w hl I h => by
  have := hl k0 (I.full ok0 h k0 hks)
  omega
 let DS : Nat → Kind := fun j => if j = k0 then .inr (fun v w => ∃ y, v = c0 y ∧ Fx y w) else if j < k0 then D0 j else .inl undef
 have hDSk : DS k0 = .inr (fun v w => ∃ y, v = c0 y ∧ Fx y w) := by simp [DS]
 have hDSj : ∀ j, j < k0 → DS j = D0 j := fun j hj => by simp [DS, Nat.ne_of_lt hj, hj]
 have hstsS : ∀ (j : Nat) (o : Oper), ops[j]? = some o → ∀ p, DS j = .inr p → stable F (([k0] : List Nat).contains j) p := fun j oj hj p hp => by
  by_cases hne : j = k0
  ·subst hne
   rw [hDSk] at hp
   injection hp with hp
   rw [← hp]
   unfold stable
   rw [if_pos (by simp)]
   exact fun v w u _ ⟨y, hv, hy⟩ => ⟨y, hv, hFx y w u hy⟩
  ·exfalso
   rcases Nat.lt_or_ge j k0 with h | h
   ·obtain ⟨c, hc⟩ := hD00 j h
    rw [hDSj j h, hc] at hp; cases hp
   ·have : DS j = .inl undef := by simp [DS, hne, Nat.not_lt.2 h]
    rw [this] at hp; cases hp
 intro fuel
 induction fuel with
 | zero => exact fun listed a w hc hl I => absurd (ready_none hc) (full listed a w hl I)
 | succ fuel ih =>
  intro listed a w hc hl I
  refine ⟨fun hnil => absurd hnil (full listed a w hl I), fun k hk => ?_⟩
  obtain ⟨hkl, hun⟩ := ready_lt hk
  have hkn : k ≤ k0 := by
   rcases Nat.lt_or_ge k0 k with h | h
   ·exfalso
    obtain ⟨_, o, ho, hall⟩ := mem_ready.1 hk
    obtain ⟨_, e, he, hb, hje⟩ := ok0.low k o ho k0 (hlate k h (Array.getElem?_eq_some_iff.1 ho).1)
    have := hall e he hb
    have hk0l : listed.getD k0 false = true := by
     rcases hje with rfl | hje
     ·exact this
     ·exact I.closed _ this k0 hje
    have := hl k0 hk0l
    omega
   ·exact h
  have IS : FlowInv ops F an Ws [k0] a0 DS listed a w := ⟨I.hF, I.lsz, I.size, I.defs, I.out, I.closed, fun j oj hj hlj _ => by
   have hjk := hl j hlj
   rw [hDSj j hjk]
   obtain ⟨c, hc⟩ := hD00 j hjk
   exact I.got j oj hj hlj (.inl ⟨c, hc⟩)⟩
  have hlist : ∀ j, (listed.setIfInBounds k true).getD j false = true → j = k ∨ listed.getD j false = true := fun j hj => (getD_set hkl).1 hj
  have heS : ∀ i, i ≤ k0 → heldD ops DS i = [] := fun i hi => (heldD_congr i fun j hj => hDSj j (by omega)).trans (hh i hi)
  have haS : ∀ i, i ≤ k0 → actD ops a0 DS i = actD ops a0 D0 i := fun i hi => actD_congr i fun j hj => hDSj j (by omega)
  refine IS.opG (G0 := fun _ => True) hF (fun _ _ _ => trivial) ok0 hstsS (fun o' ho' => ?_) (fun _ => trivial) hk fun a' w' I' _ => ?_
  ·unfold stepG
   by_cases e : k = k0
   ·subst e
    rw [hDSk]
    refine ⟨hstsS k o' ho' _ hDSk, fun w2 hw2 => ?_⟩
    rw [heS k (Nat.le_refl _), haS k (Nat.le_refl _)]
    have hnW : Ws.contains k = false := by
     rw [← Bool.not_eq_true, List.contains_iff_mem]
     intro h
     have := (hWs k h).1
     omega
    rw [hnW]
    show useH [] [] _ _ _
    rw [useH_nil]
    exact hk0 o' ho' w2 hw2.1
   ·have hlt : k < k0 := by omega
    obtain ⟨c, hc⟩ := hD00 k hlt
    rw [hDSj k hlt, hc]
    intro w2 hw2
    rw [heS k hkn, haS k hkn]
    show useH [] [] _ _ _
    rw [useH_nil]
    exact hpre k o' hlt ho' c hc w2 hw2.1
  ·by_cases e : k = k0
   ·subst e
    obtain ⟨_, o, ho, _⟩ := mem_ready.1 hk
    obtain ⟨v, hv, hx⟩ := I'.got k o ho ((getD_set hkl).2 (.inl rfl)) (.inr fun _ i hi hli => by
     rcases hlist i hli with h | h
     ·exact .inl h
     ·have := hl i h; have := (hWs i hi).1; omega)
    rw [hDSk] at hv
    obtain ⟨y, hvy, hy⟩ := hv
    refine flow_anyB (D := D y) (k0 := k) (hDk y) (hFx y) ok (hD y) (hE y) fuel _ a' w' (count_set hk hc) ((getD_set hkl).2 (.inl rfl)) ⟨hy, I'.lsz, I'.size, I'.defs, I'.out, I'.closed, fun j oj hj hlj _ => ?_⟩
    rcases hlist j hlj with h | h
    ·subst h
     rw [ho] at hj; cases hj
     rw [hDk y]
     exact ⟨v, hvy, hx⟩
    ·have hjk := hl j h
     rw [hsame y j hjk, ← hDSj j hjk]
     obtain ⟨c, hc⟩ := hD00 j hjk
     exact I'.got j oj hj hlj (.inl ⟨c, by rw [hDSj j hjk]; exact hc⟩)
   ·refine ih _ a' w' (count_set hk hc) (fun j hj => ?_) ⟨I'.hF, I'.lsz, I'.size, I'.defs, I'.out, I'.closed, fun j oj hj hlj _ => ?_⟩
    ·rcases hlist j hj with h | h
     ·omega
     ·exact hl j h
    ·have hjk : j < k0 := by
      rcases hlist j hlj with h | h
      ·omega
      ·exact hl j h
     rw [← hDSj j hjk]
     obtain ⟨c, hc⟩ := hD00 j hjk
     exact I'.got j oj hj hlj (.inl ⟨c, by rw [hDSj j hjk]; exact hc⟩)
def KPre (P : Program) (ops : Array Oper) (F : World → Prop) (C : Act → Prop) : List Oper → Act → Prop
 | [], a => C a
 | o :: rest, a => ∃ c, (∀ w, F w → KnownAt P ops o a c w) ∧ KPre P ops F C rest (a.put o.dst c)
theorem kpre_data {a0 : Act} {C : Act → Prop} : ∀ (rest : List Oper) (k : Nat) (D : Nat → Kind), (∀ j, j < rest.length → ops[k + j]? = rest[j]?) → (∀ i, i < k → ∃ c, D i = .inl c) → KPre P ops F C rest (actD ops a0 D k) →
  ∃ D', (∀ i, i < k → D' i = D i) ∧ (∀ i, i < k + rest.length → ∃ c, D' i = .inl c) ∧ (∀ i o, k ≤ i → i < k + rest.length → ops[i]? = some o → ∀ c, D' i = .inl c → ∀ w, F w → KnownAt P ops o (actD ops a0 D' i) c w) ∧ C (actD ops a0 D' (k + rest.length))
 | [], k, D, _, hk, h => ⟨D, fun _ _ => rfl, fun i hi => hk i (by simpa using hi), fun i o h1 h2 => by simp at h2; omega, h⟩
 | o :: rest, k, D, hr, hk, h => by
  have ho : ops[k]? = some o := by simpa using hr 0 (by simp)
  obtain ⟨c, h1, h2⟩ := h
  let D1 : Nat → Kind := fun i => if i = k then .inl c else D i
  have hD1 : ∀ i, i < k → D1 i = D i := fun i hi => by simp [D1, Nat.ne_of_lt hi]
  have hD1k : D1 k = .inl c := by simp [D1]
  have ha : actD ops a0 D1 (k + 1) = (actD ops a0 D k).put o.dst c := by
   show (match D1 k, ops[k]? with | .inl c, some o => (actD ops a0 D1 k).put o.dst c | _, _ => actD ops a0 D1 k) = _
   rw [hD1k, ho, actD_congr k hD1]
  obtain ⟨D', e1, e2, e3, e4⟩ := kpre_data rest (k + 1) D1 (fun j hj => by have := hr (j + 1) (by simp; omega); rw [show k + (j + 1) = k + 1 + j by omega] at this; simpa using this) (fun i hi => by
   by_cases e : i = k
   ·exact ⟨c, by rw [e]; exact hD1k⟩
   ·rw [hD1 i (by omega)]; exact hk i (by omega)) (by rw [ha]; exact h2)
  refine ⟨D', fun i hi => (e1 i (by omega)).trans (hD1 i hi), fun i hi => e2 i (by simp at hi; omega), fun i o' h3 h4 ho' c' hc' w hw => ?_, by rw [show k + (o :: rest).length = k + 1 + rest.length by simp; omega]; exact e4⟩
  by_cases e : i = k
  ·subst e
   rw [ho] at ho'; cases ho'
   rw [e1 i (by omega), hD1k] at hc'
   cases hc'
   rw [actD_congr i (fun j hj => (e1 j (by omega)).trans (hD1 j hj))]
   exact h1 w hw
  ·exact e3 i o' (by omega) (by simp at h4; omega) ho' c' hc' w hw
theorem held_none {D : Nat → Kind} : ∀ k, (∀ i, i < k → ∃ c, D i = .inl c) → heldD ops D k = []
 | 0, _ => rfl
 | k + 1, h => by
  obtain ⟨c, hc⟩ := h k (by omega)
  unfold heldD
  rw [hc]
  exact held_none k fun i hi => h i (by omega)
def lateB (an : List (List Nat)) (Ws : List Nat) (k0 n : Nat) : Bool := (List.range n).all (fun j => decide (j ≤ k0) || (an.getD j []).contains k0) && Ws.all fun j => decide (k0 < j ∧ j < n)
theorem wp_region_flowX {id : Nat} {Q' : Exit → Act → World → Prop} {a : Act} {w : World} {l : List Oper} (Ws Ms : List Nat) {N : Nat} (k0 : Nat) {o0 : Oper} (Fx : Nat → World → Prop) (c0 : Nat → Value) (hm : P.follows .mixedOrders = true) (hN : a.tmps.size = N) (ho : l[k0]? = some o0)
  (hB : flowB l.toArray (ancOf l.toArray) Ws Ms N = true) (hB0 : flowB l.toArray (ancOf l.toArray) Ws [k0] N = true) (hL : lateB (ancOf l.toArray) Ws k0 l.length = true) (hFx : ∀ x w (u : Ext), Fx x w → Fx x (w.ext u)) (hFF : ∀ x w', Fx x w' → extF w w')
  (h : KPre P l.toArray (extF w) (fun a1 => (∀ u : Ext, HeldAt P l.toArray (extF w) false o0 a1 (fun v w => ∃ y, v = c0 y ∧ Fx y w) (w.ext u)) ∧
   ∀ x, Flow P l.toArray (Fx x) (ancOf l.toArray) Ws Ms (fun a w => Q' .normal a w) (l.drop (k0 + 1)) (k0 + 1) (a1.put o0.dst (c0 x)) []) (l.take k0) a) : (Code.region id l.toArray true).wp P Q' a w := by
 subst hN
 have hk0 := (List.getElem?_eq_some_iff.1 ho).1
 have hlt : (l.take k0).length = k0 := by rw [List.length_take]; omega
 obtain ⟨D0, _, e2, e3, e4, e5⟩ := kpre_data (ops := l.toArray) (a0 := a) (l.take k0) 0 (fun _ => .inl undef) (fun j hj => by rw [hlt] at hj; simp [List.getElem?_take, hj]) (fun i hi => absurd hi (by omega)) h
 simp only [Nat.zero_add, hlt] at e2 e3 e4 e5
 have hh0 : heldD l.toArray D0 k0 = [] := held_none k0 e2
 unfold lateB at hL
 simp only [Bool.and_eq_true] at hL
 obtain ⟨hL1, hL2⟩ := hL
 have ho' : l.toArray[k0]? = some o0 := by simpa using ho
 let D1 : Nat → Nat → Kind := fun x i => if i = k0 then .inl (c0 x) else D0 i
 have hD1 : ∀ x i, i < k0 → D1 x i = D0 i := fun x i hi => by simp [D1, Nat.ne_of_lt hi]
 have hD1k : ∀ x, D1 x k0 = .inl (c0 x) := fun x => by simp [D1]
 have ha1 : ∀ x, actD l.toArray a (D1 x) (k0 + 1) = (actD l.toArray a D0 k0).put o0.dst (c0 x) := fun x => by
  show (match D1 x k0, l.toArray[k0]? with | .inl c, some o => (actD l.toArray a (D1 x) k0).put o.dst c | _, _ => actD l.toArray a (D1 x) k0) = _
  rw [hD1k x, ho', actD_congr k0 (hD1 x)]
 have hh1 : ∀ x, heldD l.toArray (D1 x) (k0 + 1) = [] := fun x => held_none (k0 + 1) fun i hi => by
  by_cases e : i = k0
  ·exact ⟨_, by rw [e]; exact hD1k x⟩
  ·rw [hD1 x i (by omega)]; exact e2 i (by omega)
 have key : ∀ x, ∃ D' : Nat → Kind, (∀ i, i < k0 + 1 → D' i = D1 x i) ∧ (∀ i o, k0 + 1 ≤ i → l.toArray[i]? = some o → stepD P l.toArray (Fx x) Ws Ms a D' i o) ∧
   ∀ w', Fx x w' → endH (liveOf (ancOf l.toArray) Ws Ms (heldD l.toArray D' (k0 + 1 + (l.drop (k0 + 1)).length))) (heldD l.toArray D' (k0 + 1 + (l.drop (k0 + 1)).length)) (actD l.toArray a D' (k0 + 1 + (l.drop (k0 + 1)).length)) w' fun a' => Q' .normal a' w' := fun x =>
  flow_data (ops := l.toArray) (a0 := a) (Q := fun a w => Q' .normal a w) (l.drop (k0 + 1)) (k0 + 1) (D1 x) (by simp) (by rw [ha1 x, hh1 x]; exact e5 x)
 obtain ⟨D, hDD⟩ := Classical.axiomOfChoice key
 have hDa := fun x => (hDD x).1
 have hDb := fun x => (hDD x).2.1
 have hDc := fun x => (hDD x).2.2
 have hsz : k0 + 1 + (l.drop (k0 + 1)).length = l.toArray.size := by simp; omega
 have hDlt : ∀ x i, i < k0 → D x i = D0 i := fun x i hi => (hDa x i (by omega)).trans (hD1 x i hi)
 refine wp_region_any hm (flow_anyX (F := extF w) (D0 := D0) (D := D) (Fx := Fx) (k0 := k0) (Ms := Ms) c0 (by simpa using hk0) e2 (fun x => (hDa x k0 (by omega)).trans (hD1k x)) hDlt (fun j h1 h2 => ?_) (fun j hj => ?_) (fun _ u ⟨x, hx⟩ => by rw [hx]; exact ext_ext w x u) hFx (flowOk_of hB) (flowOk_of hB0) (fun i o hi ho' c hc w' hw' => e3 i o (Nat.zero_le _) hi ho' c hc w' hw') (fun o ho2 w' hw' => ?_) (fun x i o hne ho2 => ?_) (fun x w' hw' => by have := hDc x w' hw'; rw [hsz] at this; exact this) _ _ _ _ ?_ ?_ ?_)
 ·have := List.all_eq_true.1 hL1 j (List.mem_range.2 (by simpa using h2))
  simp only [Bool.or_eq_true, decide_eq_true_eq, List.contains_iff_mem] at this
  exact this.resolve_left (by omega)
 ·have := List.all_eq_true.1 hL2 j hj
  simpa using this
 ·rw [ho'] at ho2; cases ho2
  obtain ⟨u, rfl⟩ := hw'
  exact e4 u
 ·rcases Nat.lt_or_ge i k0 with h1 | h1
  ·obtain ⟨c, hc⟩ := e2 i h1
   unfold stepD
   rw [hDlt x i h1, hc]
   intro w' hw'
   have eh : heldD l.toArray (D x) i = [] := (heldD_congr i fun j hj => hDlt x j (by omega)).trans (held_none i fun j hj => e2 j (by omega))
   rw [eh, actD_congr i fun j hj => hDlt x j (by omega)]
   show useH [] [] _ _ _
   rw [useH_nil]
   exact e3 i o (Nat.zero_le _) h1 ho2 c hc w' (hFF x w' hw')
  ·exact hDb x i o (by omega) ho2
 ·simp
 ·intro j hj; simp [Array.getElem?_replicate] at hj; split at hj <;> simp at hj
 ·refine ⟨ext_drew w, by simp, rfl, rfl, fun _ _ => rfl, fun k hk => ?_, fun j o ho hj => ?_⟩
  ·simp [Array.getElem?_replicate] at hk; split at hk <;> simp at hk
  ·simp [Array.getElem?_replicate] at hj; split at hj <;> simp at hj
theorem kpre_known {o : Oper} {rest : List Oper} {a : Act} {C : Act → Prop} (h : ∀ K : Act → Prop, (∀ a, KPre P ops F C rest a → K a) → ∃ c, (∀ w, F w → KnownAt P ops o a c w) ∧ K (a.put o.dst c)) : KPre P ops F C (o :: rest) a := by
 obtain ⟨c, h1, h2⟩ := h _ fun _ h => h
 exact ⟨c, h1, h2⟩
end
end Go.Proofs.YtppkanniefignaaGreatDoor
