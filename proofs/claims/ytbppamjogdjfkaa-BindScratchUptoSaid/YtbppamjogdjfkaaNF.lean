/- Regions that draw their order, whose operations make and write memory, each keeping what the others have left: the law, in a fence; a tail is done in order. append of a list of numbers onto one of the call's own, in a region that draws and makes memory besides. -/
import Derived.Test.YtbppamjogdjfkaaFlow9
import Derived.Test.YtbppamjogdjfkaaN5
import Derived.Test.YtbppamjogdjfkaaAP1
import Derived.Test.YtbppamjogdjfkaaMpIn
set_option linter.unusedSimpArgs false
set_option linter.unusedVariables false
namespace Go.Proofs.Ytbppamjogdjfkaa
open Go.RowKit

section
variable {P : Program} {ops : Array Oper} {R : World → World → Prop} {F G0 : World → Prop} {Ws : List Nat} {an : List (List Nat)} {Q : Act → World → Prop}
def onQ (R : World → World → Prop) (F : World → Prop) (wild : Bool) (w w' : World) : Prop := F w' ∧ R w w' ∧ (wild = false → ∃ u : Ext, w' = w.ext u)
def stableQ (R : World → World → Prop) (F : World → Prop) (post : Post) : Prop := ∀ v w w', F w → R w w' → post v w → post v w'
def RetHQ (R : World → World → Prop) (F : World → Prop) (wild : Bool) (post : Post) (w : World) (e : Ending) (w' : World) : Prop := ∃ v, e = .returned v ∧ post v w' ∧ onQ R F wild w w'
def heldUponQ (P : Program) (R : World → World → Prop) (F : World → Prop) (wild : Bool) (post : Post) (w : World) : Result Next → Prop
  | .ok (.value u) w' => post u w' ∧ onQ R F wild w w'
  | .ok .skip w' => post undef w' ∧ onQ R F wild w w'
  | .ok (.enter f args) w' => w' = w ∧ Calls P f args w (RetHQ R F wild post w)
  | _ => False
def HeldAtQ (P : Program) (ops : Array Oper) (R : World → World → Prop) (F : World → Prop) (wild : Bool) (o : Oper) (a : Act) (post : Post) (w : World) : Prop :=
  if Region.wanted o (yielded ops a.tmps) = true then heldUponQ P R F wild post w ((execOp a.eval o).run P w) else post undef w
def FlowQ (P : Program) (ops : Array Oper) (R : World → World → Prop) (F G0 : World → Prop) (an : List (List Nat)) (Ws : List Nat) (Q : Act → World → Prop) : List Oper → Nat → Act → List HeldP → Prop
  | [], _, a, H => ∀ w, F w → endH (liveOf an Ws [] H) H a w fun a' => Q a' w
  | o :: rest, k, a, H =>
    (∃ c, (∀ w, At0 F G0 an Ws k w → useH (maskOf ops o H) H a w fun a' => KnownAt P ops o a' c w) ∧ FlowQ P ops R F G0 an Ws Q rest (k + 1) (a.put o.dst c) H) ∨
    (∃ post, stableQ R F post ∧ (∀ w, At0 F G0 an Ws k w → useH (maskOf ops o H) H a w fun a' => HeldAtQ P ops R F (Ws.contains k) o a' post w) ∧
      FlowQ P ops R F G0 an Ws Q rest (k + 1) a (H ++ [⟨k, o.dst, post⟩]))
def stpQ (P : Program) (ops : Array Oper) (R : World → World → Prop) (F G0 : World → Prop) (an : List (List Nat)) (Ws : List Nat) (a0 : Act) (D : Nat → Kind) (k : Nat) (o : Oper) : Prop :=
  match D k with
  | .inl c => ∀ w, At0 F G0 an Ws k w → useH (maskOf ops o (heldD ops D k)) (heldD ops D k) (actD ops a0 D k) w fun a' => KnownAt P ops o a' c w
  | .inr p => stableQ R F p ∧ ∀ w, At0 F G0 an Ws k w → useH (maskOf ops o (heldD ops D k)) (heldD ops D k) (actD ops a0 D k) w fun a' => HeldAtQ P ops R F (Ws.contains k) o a' p w
theorem stpQ_congr {a0 : Act} {D D' : Nat → Kind} {k : Nat} {o : Oper} (h : ∀ i, i < k + 1 → D i = D' i) (hs : stpQ P ops R F G0 an Ws a0 D k o) : stpQ P ops R F G0 an Ws a0 D' k o := by
  unfold stpQ at *
  rw [← h k (by omega), ← actD_congr k (fun i hi => h i (by omega)), ← heldD_congr k (fun i hi => h i (by omega))]
  exact hs
theorem flow_dataQ {a0 : Act} : ∀ (rest : List Oper) (k : Nat) (D : Nat → Kind), (∀ j, j < rest.length → ops[k + j]? = rest[j]?) → FlowQ P ops R F G0 an Ws Q rest k (actD ops a0 D k) (heldD ops D k) →
    ∃ D', (∀ i, i < k → D' i = D i) ∧ (∀ i o, k ≤ i → i < k + rest.length → ops[i]? = some o → stpQ P ops R F G0 an Ws a0 D' i o) ∧
      ∀ w, F w → endH (liveOf an Ws [] (heldD ops D' (k + rest.length))) (heldD ops D' (k + rest.length)) (actD ops a0 D' (k + rest.length)) w fun a' => Q a' w
  | [], k, D, hr, h => ⟨D, fun _ _ => rfl, fun i o hi hl ho => by simp at hl; omega, h⟩
  | o :: rest, k, D, hr, h => by
    have ho : ops[k]? = some o := by simpa using hr 0 (by simp)
    have hr' : ∀ j, j < rest.length → ops[k + 1 + j]? = rest[j]? := fun j hj => by
      have := hr (j + 1) (by simp; omega)
      rw [show k + (j + 1) = k + 1 + j by omega] at this
      simpa using this
    have upd : ∀ (K : Kind), ∃ D1 : Nat → Kind, (∀ i, i < k → D1 i = D i) ∧ D1 k = K := fun K => ⟨fun i => if i = k then K else D i, fun i hi => by simp [Nat.ne_of_lt hi], by simp⟩
    rcases h with ⟨c, h1, h2⟩ | ⟨p, hst, h1, h2⟩
    · obtain ⟨D1, hd, hk⟩ := upd (.inl c)
      have ha : actD ops a0 D1 (k + 1) = (actD ops a0 D k).put o.dst c := by simp only [actD, hk, ho, actD_congr k hd]
      have hH : heldD ops D1 (k + 1) = heldD ops D k := by simp only [heldD, hk, heldD_congr k hd]
      obtain ⟨D2, hd2, hs2, he2⟩ := flow_dataQ rest (k + 1) D1 hr' (by rw [ha, hH]; exact h2)
      refine ⟨D2, fun i hi => (hd2 i (by omega)).trans (hd i hi), fun i o' hi hl ho' => ?_, ?_⟩
      · by_cases e : i = k
        · subst e
          obtain rfl : o = o' := by rw [ho] at ho'; exact Option.some.inj ho'
          refine stpQ_congr (D := D1) (fun j hj => (hd2 j hj).symm) ?_
          unfold stpQ; rw [hk, heldD_congr i hd, actD_congr i hd]; exact h1
        · exact hs2 i o' (by omega) (by simp at hl; omega) ho'
      · rw [show k + (o :: rest).length = k + 1 + rest.length by simp; omega]; exact he2
    · obtain ⟨D1, hd, hk⟩ := upd (.inr p)
      have ha : actD ops a0 D1 (k + 1) = actD ops a0 D k := by simp only [actD, hk, actD_congr k hd]
      have hH : heldD ops D1 (k + 1) = heldD ops D k ++ [⟨k, o.dst, p⟩] := by simp only [heldD, hk, ho, heldD_congr k hd]
      obtain ⟨D2, hd2, hs2, he2⟩ := flow_dataQ rest (k + 1) D1 hr' (by rw [ha, hH]; exact h2)
      refine ⟨D2, fun i hi => (hd2 i (by omega)).trans (hd i hi), fun i o' hi hl ho' => ?_, ?_⟩
      · by_cases e : i = k
        · subst e
          obtain rfl : o = o' := by rw [ho] at ho'; exact Option.some.inj ho'
          refine stpQ_congr (D := D1) (fun j hj => (hd2 j hj).symm) ?_
          unfold stpQ; rw [hk, heldD_congr i hd, actD_congr i hd]; exact ⟨hst, h1⟩
        · exact hs2 i o' (by omega) (by simp at hl; omega) ho'
      · rw [show k + (o :: rest).length = k + 1 + rest.length by simp; omega]; exact he2

theorem FlowInv.stepQ {a0 : Act} {D : Nat → Kind} {listed : Array Bool} {a : Act} {w w' : World} {k : Nat} {o : Oper} {v : Value} (ok : FlowOk ops an Ws [] a0.tmps.size) (I : FlowInv ops F an Ws [] a0 D listed a w)
    (ho : ops[k]? = some o) (hr : k ∈ Region.ready .any ops listed)     (hsts : ∀ (j : Nat) (o : Oper), ops[j]? = some o → ∀ p, D j = .inr p → stableQ R F p)
    (hw : onQ R F (Ws.contains k) w w') (hp : postOf (D k) v w') : FlowInv ops F an Ws [] a0 D (listed.setIfInBounds k true) (a.put o.dst v) w' := by
  have hk := (Array.getElem?_eq_some_iff.1 ho).1
  have hkl : k < listed.size := by rw [I.lsz]; exact hk
  have hun := (mem_ready.1 hr).1
  have hunf := getD_ff hun
  refine ⟨hw.1, by simpa using I.lsz, (put_size ..).trans I.size, (put_def ..).trans I.defs, fun t ht => ?_, fun i hi j hj => ?_, fun j o' ho' hj hl => ?_⟩
  · by_cases htt : t < a.tmps.size
    · rw [put_get _ _ _ _ htt, if_neg (ht k o ho ((getD_set hkl).2 (.inl rfl)))]; exact I.out t fun j oj hj hl => ht j oj hj ((getD_set hkl).2 (.inr hl))
    · have := I.out t fun j oj hj hl => ht j oj hj ((getD_set hkl).2 (.inr hl))
      rw [Array.getElem?_eq_none (by rw [put_size]; exact Nat.le_of_not_lt htt), Array.getElem?_eq_none (by rw [← I.size]; exact Nat.le_of_not_lt htt)]
  · rw [getD_set hkl] at hi ⊢
    rcases hi with rfl | hi
    · obtain ⟨_, e, he, hb, hj'⟩ := ok.low i o ho j hj
      obtain ⟨_, o2, ho2, hall⟩ := mem_ready.1 hr
      rw [ho] at ho2; cases ho2
      have := hall e he hb
      rcases hj' with rfl | hj'
      · exact .inr this
      · exact .inr (I.closed _ this j hj')
    · exact .inr (I.closed i hi j hj)
  · rw [getD_set hkl] at hj
    by_cases e : j = k
    · subst e
      rw [ho] at ho'; cases ho'
      refine ⟨v, hp, fun d hd => ?_⟩
      have hb := ok.bnd j o d ho hd
      rw [← I.size] at hb
      have := put_get a o.dst v d hb
      rw [if_pos hd] at this
      simp only [valOf, Array.getD_eq_getD_getElem?, this, Option.getD_some]
    · have hj : listed.getD j false = true := hj.resolve_left e
      have hv : ∀ d, o'.dst = some d → valOf (a.put o.dst v) (some d) = valOf a (some d) := fun d hd => by
        have hb := ok.bnd j o' d ho' hd
        rw [← I.size] at hb
        have := put_get a o.dst v d hb
        rw [if_neg (fun h => e (ok.one k o d ho h j o' ho' hd))] at this
        simp only [valOf, Array.getD_eq_getD_getElem?, this]
      have hl' : liveAt an Ws [] D listed j := hl.imp id fun hl hm i hi hli => hl hm i hi ((getD_set hkl).2 (.inr hli))
      obtain ⟨x, hpj, hx⟩ := I.got j o' ho' hj hl'
      refine ⟨x, ?_, fun d hd => (hx d hd).trans (hv d hd).symm⟩
      cases hDj : D j with
      | inl c => rw [hDj] at hpj; exact hpj
      | inr p =>
        rw [hDj] at hpj
        have hs := hsts j o' ho' p hDj
        exact hs _ _ _ I.hF hw.2.1 hpj

theorem FlowInv.opQ {a0 : Act} {D : Nat → Kind} {listed : Array Bool} {a : Act} {w : World} {k : Nat} {Q' : Exit → Act → World → Prop} {nF : Nat} (hnd : noDefer ops = true) (hR : ∀ w (u : Ext), F w → R w (w.ext u)) (hF : ∀ w (u : Ext), F w → F (w.ext u)) (hG : ∀ w (u : Ext), G0 w → G0 (w.ext u)) (ok : FlowOk ops an Ws [] a0.tmps.size)
    (hsts : ∀ (j : Nat) (o : Oper), ops[j]? = some o → ∀ p, D j = .inr p → stableQ R F p) (hD : ∀ (o : Oper), ops[k]? = some o → stpQ P ops R F G0 an Ws a0 D k o) (I : FlowInv ops F an Ws [] a0 D listed a w) (ht : Tame Ws G0 listed w) (hr : k ∈ Region.ready .any ops listed)
    {K : Act → World → Prop} (hK : ∀ a' w', FlowInv ops F an Ws [] a0 D (listed.setIfInBounds k true) a' w' → Tame Ws G0 (listed.setIfInBounds k true) w' → K a' w') : wpOpIn Fence.wide nF P ops Q' k K a w := by
  obtain ⟨hun, o, ho, _⟩ := mem_ready.1 hr
  have hkl : k < listed.size := by rw [I.lsz]; exact (Array.getElem?_eq_some_iff.1 ho).1
  have at0 : At0 F G0 an Ws k w := ⟨I.hF, fun hp => ht fun x hx => by
    unfold preB at hp
    have := List.all_eq_true.1 hp x hx
    simp only [Bool.or_eq_true, beq_iff_eq, List.contains_iff_mem] at this
    rcases this with rfl | h
    · exact getD_ff hun
    · cases hl : listed.getD x false with
      | false => rfl
      | true =>
        have := I.closed x hl k h
        rw [getD_ff hun] at this; cases this⟩
  have go : ∀ v w', onQ R F (Ws.contains k) w w' → postOf (D k) v w' → K (a.put o.dst v) w' := fun v w' hw hp => by
    refine hK _ _ (I.stepQ ok ho hr hsts hw hp) fun hx => ?_
    · have hnw : Ws.contains k = false := by
        rw [← Bool.not_eq_true, List.contains_iff_mem]
        intro hk
        have := hx k hk
        rw [(getD_set hkl).2 (.inl rfl)] at this; cases this
      obtain ⟨u, rfl⟩ := hw.2.2 hnw
      refine hG _ u (ht fun x hx' => ?_)
      have := hx x hx'
      cases hl : listed.getD x false with
      | false => rfl
      | true => rw [(getD_set hkl).2 (.inr hl)] at this; cases this
  have self : onQ R F (Ws.contains k) w w := ⟨I.hF, (by have h := hR w (ext_refl w).choose I.hF; rw [← (ext_refl w).choose_spec] at h; exact h), fun _ => ⟨_, (ext_refl w).choose_spec⟩⟩
  have hs := hD o ho
  unfold stpQ at hs
  have sel := Region.noSelect_spec ok.sel k o
  have hd := noDefer_at hnd ho
  unfold wpOpIn
  simp only [ho]
  cases hDk : D k with
  | inl c =>
    simp only [hDk] at hs
    obtain ⟨a', hk, hl⟩ := I.looks ok ho hr (hs w at0)
    unfold KnownAt at hk
    rw [← wanted_congr hl, ← execOp_looks (fun cs b => sel cs b ho) hl] at hk
    rw [hDk] at go
    by_cases hw : Region.wanted o (yielded ops a.tmps) = true
    · rw [if_pos hw] at hk ⊢
      refine ⟨fun _ _ => trivial, ?_⟩
      rw [Oper.semAt_eq _ _ _ hd]
      generalize (execOp a.eval o).run P w = r at hk
      cases r with
      | ok n w' =>
        cases n <;> simp only [knownUpon] at hk <;> simp only [Oper.uponIn]
        case value u => obtain ⟨rfl, rfl⟩ := hk; exact go _ _ self rfl
        case skip => obtain ⟨rfl, rfl⟩ := hk; exact go _ _ self rfl
        case enter f args =>
          obtain ⟨rfl, hc⟩ := hk
          refine ⟨fun h => (by cases h), callsIn_wide.2 (hc.mono ?_)⟩
          rintro e w2 ⟨rfl, u, rfl⟩
          exact go _ _ ⟨hF _ u I.hF, hR _ _ I.hF, fun _ => ⟨u, rfl⟩⟩ rfl
      | halt x w' => simp only [knownUpon] at hk
    · rw [if_neg hw] at hk ⊢
      exact ⟨fun _ _ => trivial, go _ _ self hk.symm⟩
  | inr p =>
    simp only [hDk] at hs
    obtain ⟨a', hk, hl⟩ := I.looks ok ho hr (hs.2 w at0)
    unfold HeldAtQ at hk
    rw [← wanted_congr hl, ← execOp_looks (fun cs b => sel cs b ho) hl] at hk
    rw [hDk] at go
    by_cases hw : Region.wanted o (yielded ops a.tmps) = true
    · rw [if_pos hw] at hk ⊢
      refine ⟨fun _ _ => trivial, ?_⟩
      rw [Oper.semAt_eq _ _ _ hd]
      generalize (execOp a.eval o).run P w = r at hk
      cases r with
      | ok n w' =>
        cases n <;> simp only [heldUponQ] at hk <;> simp only [Oper.uponIn]
        case value u => exact go _ _ hk.2 hk.1
        case skip => exact go _ _ hk.2 hk.1
        case enter f args =>
          obtain ⟨rfl, hc⟩ := hk
          refine ⟨fun h => (by cases h), callsIn_wide.2 (hc.mono ?_)⟩
          rintro e w2 ⟨v, rfl, hp, hon⟩
          exact go _ _ hon hp
      | halt x w' => simp only [heldUponQ] at hk
    · rw [if_neg hw] at hk ⊢
      exact ⟨fun _ _ => trivial, go _ _ self hk⟩

theorem wpAnyIn_of_seq {nF : Nat} {Q' : Exit → Act → World → Prop} : ∀ (l : List Oper) (f k : Nat) (listed : Array Bool) (a : Act) (w : World), (∀ j, l[j]? = ops[k + j]?) →
    Region.seqB .any ops l.length k listed = true → wpListIn Fence.wide nF P ops Q' l a w → wpAnyIn Fence.wide nF P .any ops Q' (l.length + f) listed a w
  | [], 0, _, _, _, _, _, hB, h => ⟨by simpa [Region.seqB] using hB, h⟩
  | [], f + 1, _, listed, _, _, _, hB, h => by
    have h0 : Region.ready .any ops listed = [] := by simpa [Region.seqB] using hB
    rw [show ([] : List Oper).length + (f + 1) = f + 1 by simp]
    exact ⟨fun _ => h, fun i hi => by rw [h0] at hi; cases hi⟩
  | o :: l, f, k, listed, a, w, hl, hB, h => by
    have h0 : ops[k]? = some o := by simpa using (hl 0).symm
    simp only [List.length_cons, Region.seqB, Bool.and_eq_true, decide_eq_true_eq] at hB
    rw [show (o :: l).length + f = (l.length + f) + 1 by simp; omega]
    refine ⟨fun h1 => (by rw [hB.1] at h1; cases h1), fun i hi => ?_⟩
    rw [hB.1] at hi
    have hik : i = k := by simpa using hi
    subst hik
    have hw : wpOpIn Fence.wide nF P ops Q' i (wpListIn Fence.wide nF P ops Q' l) a w := by unfold wpOpIn; simp only [h0]; exact h
    exact wpOpIn_mono (fun a' w' h' => wpAnyIn_of_seq l f (i + 1) _ a' w' (fun j => by have := hl (j + 1); simpa [Nat.add_assoc, Nat.add_comm 1 j] using this) hB.2 h') hw
theorem flow_anyTQ {a0 : Act} {D : Nat → Kind} {Q' : Exit → Act → World → Prop} {n : Nat} {tl : List Oper} (hn : ops.size = n + tl.length) (htl : ∀ j, tl[j]? = ops[n + j]?) (hall : ∀ t, n ≤ t → t < ops.size → ∀ j, j < n → j ∈ an.getD t [])
    (hseq : Region.seqB .any ops tl.length n (headsOf n tl.length) = true)
    {nF : Nat} (hnd : noDefer ops = true) (hR : ∀ w (u : Ext), F w → R w (w.ext u)) (hF : ∀ w (u : Ext), F w → F (w.ext u)) (hG : ∀ w (u : Ext), G0 w → G0 (w.ext u)) (ok : FlowOk ops an Ws [] a0.tmps.size)
    (hDn : ∀ t, n ≤ t → ∃ c, D t = .inl c) (hD : ∀ (i : Nat) (o : Oper), i < n → ops[i]? = some o → stpQ P ops R F G0 an Ws a0 D i o)
    (hE : ∀ w, F w → endH (liveOf an Ws [] (heldD ops D n)) (heldD ops D n) (actD ops a0 D n) w fun a' => wpListIn Fence.wide nF P ops Q' tl a' w) :
    ∀ (fuel : Nat) (listed : Array Bool) (a : Act) (w : World), listed.toList.count false ≤ fuel → (∀ t, n ≤ t → t < ops.size → listed.getD t true = false) → FlowInv ops F an Ws [] a0 D listed a w → Tame Ws G0 listed w → wpAnyIn Fence.wide nF P .any ops Q' fuel listed a w := by
  have hsts : ∀ (j : Nat) (o : Oper), ops[j]? = some o → ∀ p, D j = .inr p → stableQ R F p := fun j o ho p hp => by
    rcases Nat.lt_or_ge j n with h | h
    · have := hD j o h ho
      unfold stpQ at this
      rw [hp] at this
      exact this.1
    · obtain ⟨c, hc⟩ := hDn j h
      rw [hc] at hp; cases hp
  have listedlt : ∀ (listed : Array Bool) (a : Act) (w : World), (∀ t, n ≤ t → t < ops.size → listed.getD t true = false) → FlowInv ops F an Ws [] a0 D listed a w → ∀ j, listed.getD j false = true → j < n := fun listed a w hT I j hj => by
    rcases Nat.lt_or_ge j n with h | h
    · exact h
    · exfalso
      by_cases hjs : j < ops.size
      · have := hT j h hjs
        rw [getD_ff this] at hj; cases hj
      · simp [Array.getElem?_eq_none (show listed.size ≤ j by rw [I.lsz]; omega)] at hj
  intro fuel
  induction fuel with
  | zero =>
    intro listed a w hc hT I _
    have hfull : ∀ j, j < listed.size → listed.getD j false = true := fun j hj => by
      cases hl : listed.getD j false with
      | true => rfl
      | false =>
        have : false ∈ listed.toList := by
          have h2 : listed[j] = false := by simpa [hj] using hl
          rw [← h2]; simp
        have := List.count_pos_iff.2 this
        omega
    have htl0 : tl = [] := by
      cases tl with
      | nil => rfl
      | cons o l =>
        have h1 := hT n (Nat.le_refl _) (by rw [hn]; simp)
        have h2 := hfull n (by rw [I.lsz, hn]; simp)
        rw [getD_ff h1] at h2; cases h2
    subst htl0
    have hnil : Region.ready .any ops listed = [] := by
      rw [List.eq_nil_iff_forall_not_mem]
      intro j hj
      obtain ⟨h0, o, ho, _⟩ := mem_ready.1 hj
      have := hfull j (by rw [I.lsz]; exact (Array.getElem?_eq_some_iff.1 ho).1)
      rw [getD_ff h0] at this; cases this
    refine ⟨hnil, ?_⟩
    have hn' : ops.size = n := by simpa using hn
    exact I.endT (Q := fun a w => wpListIn Fence.wide nF P ops Q' [] a w) ok (by omega) (fun j hj => hfull j (by rw [I.lsz]; omega)) (fun d hd => I.out d fun j o hj hl => hd j o (listedlt listed a w hT I j hl) hj) (hE w I.hF)
  | succ fuel ih =>
    intro listed a w hc hT I hTm
    by_cases hheads : ∀ j, j < n → listed.getD j false = true
    · have hlist : listed = headsOf n tl.length := by
        apply Array.ext
        · rw [I.lsz, hn]; simp [headsOf]
        · intro j h1 h2
          simp only [headsOf, List.getElem_toArray, List.getElem_map, List.getElem_range]
          by_cases hj : j < n
          · have := hheads j hj
            simp [h1] at this
            rw [this]; simp [hj]
          · have := hT j (by omega) (by rw [← I.lsz]; exact h1)
            simp [h1] at this
            rw [this]; simp [hj]
      have hw := I.endT (Q := fun a w => wpListIn Fence.wide nF P ops Q' tl a w) ok (by omega) hheads (fun d hd => I.out d fun j o hj hl => hd j o (listedlt listed a w hT I j hl) hj) (hE w I.hF)
      have hcount : tl.length ≤ fuel + 1 := by
        refine Nat.le_trans ?_ hc
        rw [hlist]
        simp only [headsOf]
        rw [List.count_eq_countP, List.countP_map]
        have e : List.range (n + tl.length) = List.range n ++ (List.range tl.length).map (n + ·) := List.range_add
        rw [e, List.countP_append, List.countP_map]
        have : List.countP (((fun x => x == false) ∘ fun j => decide (j < n)) ∘ fun x => n + x) (List.range tl.length) = (List.range tl.length).length := by
          rw [List.countP_eq_length]; intro x _; simp
        rw [this]; simp
      obtain ⟨f, hf⟩ : ∃ f, fuel + 1 = tl.length + f := ⟨fuel + 1 - tl.length, by omega⟩
      rw [hf, hlist]
      exact wpAnyIn_of_seq tl f n _ a w htl hseq hw
    · have hnr : Region.ready .any ops listed ≠ [] := fun h => hheads fun j hj => I.full ok h j (by omega)
      refine ⟨fun h => (hnr h).elim, fun k hk => ?_⟩
      obtain ⟨h0, o, ho, hedges⟩ := mem_ready.1 hk
      have hks := (Array.getElem?_eq_some_iff.1 ho).1
      have hkn : k < n := by
        rcases Nat.lt_or_ge k n with h | h
        · exact h
        · exfalso
          refine hheads fun j hj => ?_
          obtain ⟨_, e, he, hb, hje⟩ := ok.low k o ho j (hall k h hks j hj)
          have := hedges e he hb
          rcases hje with rfl | hje
          · exact this
          · exact I.closed _ this j hje
      refine I.opQ hnd hR hF hG ok hsts (fun o ho => hD k o hkn ho) hTm hk fun a' w' I' hT' => ih _ a' w' ?_ (fun t ht hts => by rw [getD_set_ne true (by omega)]; exact hT t ht hts) I' hT'
      have h0 := (mem_ready.1 hk).1
      have hlt : k < listed.size := by rw [I.lsz]; exact hks
      simp [hlt] at h0
      rw [Array.toList_setIfInBounds]
      have hlt' : k < listed.toList.length := by simpa using hlt
      have hg : listed.toList[k] = false := by simpa using h0
      rw [List.set_eq_take_append_cons_drop]
      rw [if_pos hlt', List.count_append, List.count_cons_of_ne (by simp)]
      have hsplit : listed.toList = listed.toList.take k ++ false :: listed.toList.drop (k + 1) := by
        rw [← hg, List.getElem_cons_drop, List.take_append_drop]
      have := congrArg (List.count false) hsplit
      rw [List.count_append, List.count_cons_self] at this
      omega
/-- **THE LAW**: from operation n on they are done in order, behind all others; ahead of them those in Ws may write. -/
theorem wp_region_Q_tail {id nF : Nat} {Q' : Exit → Act → World → Prop} {a : Act} {w : World} {l : List Oper} (R : World → World → Prop) (F G0 : World → Prop) (Ws : List Nat) {N : Nat} (n : Nat) (hm : P.follows .mixedOrders = true) (hN : a.tmps.size = N)
    (hB : flowB l.toArray (ancOf l.toArray) Ws [] N = true) (hT : tailB l n = true) (hnd : noDefer l.toArray = true) (hR : ∀ w (u : Ext), F w → R w (w.ext u)) (hF : ∀ w (u : Ext), F w → F (w.ext u)) (hG : ∀ w (u : Ext), G0 w → G0 (w.ext u)) (hF0 : F w.drew) (hG0 : G0 w.drew)
    (h : FlowQ P l.toArray R F G0 (ancOf l.toArray) Ws (fun a w => wpListIn Fence.wide nF P l.toArray Q' (l.drop n) a w) (l.take n) 0 a []) : (Code.region id l.toArray true).wpIn Fence.wide nF P Q' a w := by
  subst hN
  unfold tailB at hT
  simp only [Bool.and_eq_true, decide_eq_true_eq] at hT
  obtain ⟨⟨hnl, hall⟩, hseq⟩ := hT
  have hlen : (l.take n).length = n := by rw [List.length_take]; omega
  have hdl : (l.drop n).length = l.length - n := by simp
  obtain ⟨D, hD0, hD, hE⟩ := flow_dataQ (ops := l.toArray) (a0 := a) (l.take n) 0 (fun _ => .inl undef) (fun j hj => by rw [hlen] at hj; simp [List.getElem?_take, hj]) h
  simp only [Nat.zero_add, hlen] at hD hE
  have hsame : ∀ i, i < n → (fun i => if n ≤ i then (.inl undef : Kind) else D i) i = D i := fun i hi => by simp [Nat.not_le.2 hi]
  have hact := actD_congr (ops := l.toArray) (a0 := a) n hsame
  have hheld := heldD_congr (ops := l.toArray) n hsame
  refine wpIn_region_any hm (flow_anyTQ (D := fun i => if n ≤ i then .inl undef else D i) (n := n) (tl := l.drop n) (by simp; omega) (fun j => by simp [List.getElem?_drop]) (fun t ht hts j hj => ?_) (by rw [hdl]; exact hseq) hnd hR hF hG (flowOk_of hB) (fun t ht => ⟨undef, by simp [ht]⟩)
    (fun i o hi ho => stpQ_congr (D := D) (fun j hj => by simp; omega) (hD i o (by omega) hi ho)) (fun w' hw' => by rw [hact, hheld]; exact hE w' hw') _ _ _ _ ?_ ?_ ?_ ?_)
  · have h1 := List.all_eq_true.1 hall (t - n) (List.mem_range.2 (by simp at hts; omega))
    have h2 := List.all_eq_true.1 h1 j (List.mem_range.2 hj)
    rw [show n + (t - n) = t by omega] at h2
    simpa using h2
  · simp
  · intro t _ hts
    simp at hts
    simp [hts]
  · refine ⟨hF0, by simp, rfl, rfl, fun _ _ => rfl, fun k hk => ?_, fun j o ho hj => ?_⟩
    · simp [Array.getElem?_replicate] at hk; split at hk <;> simp at hk
    · simp [Array.getElem?_replicate] at hj; split at hj <;> simp at hj
  · intro _; exact hG0
section
variable {o : Oper} {rest : List Oper} {k : Nat} {a : Act} {H : List HeldP} {w0 : World}
/-- Known wherever it comes up. -/
theorem flowQ_known (hms : (maskOf ops o H).all (! ·) = true)
    (h : ∀ K : Act → Prop, (∀ a, FlowQ P ops R F G0 an Ws Q rest (k + 1) a H → K a) → ∃ c, (∀ w, F w → KnownAt P ops o a c w) ∧ K (a.put o.dst c)) : FlowQ P ops R F G0 an Ws Q (o :: rest) k a H := by
  obtain ⟨c, h1, h2⟩ := h _ fun _ h => h
  exact .inl ⟨c, fun w hw => useH_none (h1 w hw.1) _ _ hms, h2⟩
/-- Held wherever it comes up. -/
theorem flowQ_keep (ms : List Bool) (post : Post) (hms : maskOf ops o H = ms) (hst : stableQ R F post)
    (h1 : ∀ w, F w → useH ms H a w fun a' => HeldAtQ P ops R F (Ws.contains k) o a' post w)
    (h2 : FlowQ P ops R F G0 an Ws Q rest (k + 1) a (H ++ [⟨k, o.dst, post⟩])) : FlowQ P ops R F G0 an Ws Q (o :: rest) k a H :=
  .inr ⟨post, hst, fun w hw => hms ▸ h1 w hw.1, h2⟩
/-- .. ahead of what goes wild, or it. -/
theorem flowQ_keep0 (ms : List Bool) (post : Post) (hms : maskOf ops o H = ms) (hst : stableQ R F post) (hp : preB an Ws k = true)
    (h1 : ∀ w, F w → G0 w → useH ms H a w fun a' => HeldAtQ P ops R F (Ws.contains k) o a' post w)
    (h2 : FlowQ P ops R F G0 an Ws Q rest (k + 1) a (H ++ [⟨k, o.dst, post⟩])) : FlowQ P ops R F G0 an Ws Q (o :: rest) k a H :=
  .inr ⟨post, hst, fun w hw => hms ▸ h1 w hw.1 (hw.2 hp), h2⟩
theorem flowQ_done (ms : List Bool) (hms : liveOf an Ws [] H = ms) (h : ∀ w, F w → endH ms H a w fun a' => Q a' w) : FlowQ P ops R F G0 an Ws Q [] k a H := fun w hw => hms ▸ h w hw
end
end
end Go.Proofs.Ytbppamjogdjfkaa
set_option linter.unusedSimpArgs false
set_option linter.unusedVariables false
namespace Go.Proofs.Ytbppamjogdjfkaa
open Go.RowKit

section
variable {P : Program}
/-- An append stays where it was, or leaves all as it was. -/
theorem append_or (w : World) (base : Nat) (t ty e : TypeId) (i : TypeInfo) (z : Value) (size bytes : Nat) (ht : P.underlying t = some (.slice e)) (hi : P.info? e = some i) (hz : i.zero = some z)
    (hsize : i.size = size) (hby : i.bytes = bytes) (v : Value) (n : Nat) (xs : List Value) (hown : w.ownsRow base e size v n xs)
    (a : Addr) (m c : Nat) (news : List Value) (hl : news.length = m * size) (hnews : ∀ j u, news[j]? = some u → w.cell? (a.add j) = some u) (h1 : ∀ u ∈ news, u.oneCell' = true)
    (h63 : n + m ≤ maxLen) (hbytes : (n + m) * bytes ≤ 140737488355328) {v' : Value} {w' : World} (hg : w.grownBy w' v.ownBlock) (hrun : (Builtin.append_ #[t, t] ty #[v, .slice (some a) m c]).run P w = .ok v' w') :
    (∃ g cap, v = .slice (some ⟨g, 0, none⟩) n cap ∧ v' = .slice (some ⟨g, 0, none⟩) (n + m) cap) ∨ ∀ k, k < w.heap.size → w'.heap[k]? = w.heap[k]? := by
  subst hsize hby
  have hsmall : n + m ≤ 9223372036854775807 := by simp only [maxLen] at h63; omega
  rcases hown.2 with ⟨rfl, hn⟩ | ⟨g, cap, cur, rfl, hbg, hg', hnc, hcm, hcs, htake⟩
  · exact .inr fun k hk => hg.block k hk fun e => by cases e
  · by_cases hroom : n + m ≤ cap
    · have hfit : n * i.size + news.length ≤ cur.size := by rw [hl, hcs, ← Nat.add_mul]; exact Nat.mul_le_mul_right _ hroom
      rw [run_append_room (P := P) w t ty e i ht hi g n cap cur hg' a m c news hl hnews h1 hroom hfit] at hrun
      injection hrun with hv hw
      exact .inl ⟨g, cap, rfl, hv.symm⟩
    · have holds : ∀ j u, xs[j]? = some u → w.cell? ((⟨g, 0, none⟩ : Addr).add j) = some u := hown.cells (g := g) rfl
      rw [run_append_grow (P := P) w t ty e i z ht hi hz ⟨g, 0, none⟩ n cap xs hown.1 holds a m c news hl hnews (by omega) (by omega) (growslice_fits (by omega) hbytes)] at hrun
      injection hrun with _ hw
      subst hw
      exact .inr fun k hk => Below.heap_alloc w.drew _ k hk
end
theorem RepL.ints_of {w : World} {S : Nat → Prop} : ∀ {xs : List Int} {vs : List Value}, RepL w S xs vs → vs = xs.map (Value.int .i64) ∧ ∀ x ∈ xs, InI x
  | [], _, h => ⟨h, by simp⟩
  | x :: l, _, ⟨us, ts, e, h1, h2⟩ => by
    obtain ⟨h3, h4⟩ := RepL.ints_of h2
    obtain ⟨h5, h6⟩ := h1
    subst e h5 h3
    refine ⟨rfl, fun y hy => ?_⟩
    rcases List.mem_cons.1 hy with rfl | hy
    · exact h6
    · exact h4 y hy
/-- What a step keeps: all that has been made since; and the row, unless it is what the list now reads. -/
structure RQ (W : World) (base : Nat) (T : TypeId) (row : Option Nat) (n c : Nat) (Z : List Int) (w w' : World) : Prop where
  size : w.heap.size ≤ w'.heap.size
  new : ∀ b, W.heap.size ≤ b → b < w.heap.size → w'.heap[b]? = w.heap[b]?
  row : ∀ r, row = some r → w'.heap[r]? = w.heap[r]? ∨ OwnL w' base T (fun _ => False) (.slice (some ⟨r, 0, none⟩) n c) Z
def PQ (W : World) (base : Nat) (T : TypeId) (row : Option Nat) (n c : Nat) (Z : List Int) : Post := fun v w =>
  OwnL w base T (fun _ => False) v Z ∧ ∀ g, v.ownBlock = some g → W.heap.size ≤ g ∨ (row = some g ∧ v = .slice (some ⟨g, 0, none⟩) n c)
section
variable {W w w' : World} {base : Nat} {T : TypeId} {row : Option Nat} {n c : Nat} {Z : List Int} {F : World → Prop}
theorem RQ.ext (w : World) (u : Ext) (hr : ∀ r, row = some r → r < W.heap.size) (hw : W.heap.size ≤ w.heap.size) : RQ W base T row n c Z w (w.ext u) :=
  ⟨by rw [size_ext]; omega, fun b _ hb => ext_block w u b hb, fun r hrr => .inl (ext_block w u r (by have := hr r hrr; omega))⟩
theorem PQ.stable_ : stableQ (RQ W base T row n c Z) F (PQ W base T row n c Z) := by
  rintro v w w' _ hR ⟨ho, hg⟩
  by_cases hc : ∃ g, v.ownBlock = some g ∧ ¬ W.heap.size ≤ g
  · obtain ⟨g, e, hlt⟩ := hc
    rcases hg g e with h | ⟨hrow, hv⟩
    · exact (hlt h).elim
    · rcases hR.row g hrow with h | h
      · refine ⟨ho.keep hR.size (fun _ f => f.elim) fun g' e' => ?_, hg⟩
        rw [e] at e'; injection e' with e'; subst e'; exact h
      · rw [← hv] at h; exact ⟨h, hg⟩
  · refine ⟨ho.keep hR.size (fun _ f => f.elim) fun g e => hR.new g (Decidable.byContradiction fun h => hc ⟨g, e, h⟩) (ho.below_ g e).2, hg⟩
/-- A literal in a block made since. -/
def LitB (B : Nat) (T : TypeId) (us : List Value) (m : Nat) : Post := fun v w => ∃ g, v = .slice (some ⟨g, 0, none⟩) m m ∧ B ≤ g ∧ w.heap[g]? = some (.cells us.toArray T (0, 0))
theorem LitB.stableQ_ {T' : TypeId} {us : List Value} {m : Nat} : stableQ (RQ W base T row n c Z) F (LitB W.heap.size T' us m) := by
  rintro v w w' _ hR ⟨g, hv, hb, h⟩
  exact ⟨g, hv, hb, (hR.new g hb (Array.getElem?_eq_some_iff.1 h).1).trans h⟩
theorem lit_news {w : World} {g : Nat} {T : TypeId} {us : List Value} (h : w.heap[g]? = some (.cells us.toArray T (0, 0))) (j : Nat) (u : Value) (hj : us[j]? = some u) : w.cell? ((⟨g, 0, none⟩ : Addr).add j) = some u := by
  rw [Addr.add_mid, Nat.zero_add, cell_of_row w g _ _ T (0, 0) h]
  simpa using hj
theorem HeldAtQ.of {P : Program} {ops : Array Oper} {R : World → World → Prop} {F : World → Prop} {wild : Bool} {o : Oper} {a : Act} {post : Post} (hg : o.guard = none) (h : heldUponQ P R F wild post w ((execOp a.eval o).run P w)) : HeldAtQ P ops R F wild o a post w := by
  unfold HeldAtQ
  rw [if_pos (by simp [Region.wanted, hg])]
  exact h
theorem HeldAtQ.push_ints {P : Program} {ops : Array Oper} {o : Oper} {a : Act} (hgd : o.guard = none) (s x : Operand) (t : TypeId)
    (ho : o.op = .call { callee := .builtin .append, args := #[s, x], argTypes := #[t, t] }) (base : Nat) (T : TypeId) (i : TypeInfo) (z : Value) (bytes : Nat) (ht : P.underlying t = some (.slice T)) (hi : P.info? T = some i) (hz : i.zero = some z)
    (hsize : i.size = 1) (hby : i.bytes = bytes) (hzs : z.cells.size = 1)
    (A4 : Option Addr) (N4 c4 : Nat) (xs ys : List Int) (hs : a.eval s = .slice A4 N4 c4) (hown : OwnL w base T (fun _ => False) (.slice A4 N4 c4) xs) (S2 : Nat → Prop) (A : Option Addr) (m c : Nat) (hx : a.eval x = .slice A m c) (hr : Sl w S2 A m c ys)
    (h63 : N4 + m ≤ 9223372036854775807) (hbytes : (N4 + m) * bytes ≤ 140737488355328) (hbase : base ≤ w.heap.size) (hw : W.grownBy w (Value.slice A4 N4 c4).ownBlock) (hlt : ∀ g, (Value.slice A4 N4 c4).ownBlock = some g → g < W.heap.size) :
    HeldAtQ P ops (RQ W base T (Value.slice A4 N4 c4).ownBlock (N4 + m) c4 (xs ++ ys)) (rowF W (Value.slice A4 N4 c4).ownBlock) true o a (PQ W base T (Value.slice A4 N4 c4).ownBlock (N4 + m) c4 (xs ++ ys)) w := by
  refine HeldAtQ.of hgd ?_
  have hln : xs.length = N4 := by
    obtain ⟨A', c', e⟩ := hown.form
    injection e with _ e2 _
    exact e2.symm
  subst hln
  obtain ⟨vals, hrow, hrep, _⟩ := hown
  obtain ⟨rfl, hI1⟩ := RepL.ints_of hrep
  cases A with
  | none =>
    have h0' : c = 0 := hr.2.2.2.1 rfl
    have h0 : m = 0 := by have := hr.2.1; omega
    subst h0 h0'
    obtain rfl : ys = [] := List.eq_nil_of_length_eq_zero hr.len
    have hrun := run_append_nil_src (P := P) w base t o.type T i 1 ht hi (.slice A4 xs.length c4) xs.length _ hrow 0
    unfold execOp
    simp only [ho, resolve, invoke, builtin, Sem.run_bind, Sem.run_pure, Result.andThen_ok, List.map_toArray, List.map_cons, List.map_nil, hs, hx, hrun]
    rw [List.append_nil, Nat.add_zero]
    refine ⟨⟨⟨_, hrow, RepL.ints _ hI1, fun _ _ h => h⟩, fun g e => .inr ⟨e, ?_⟩⟩, hw, ⟨Nat.le_refl _, fun _ _ _ => rfl, fun _ _ => .inl rfl⟩, fun h => by cases h⟩
    rcases hrow.2 with ⟨e2, _⟩ | ⟨g', cap, cur, e2, _⟩
    · rw [e2] at e; cases e
    · rw [e2] at e ⊢; injection e with e; simp only at e; subst e; injection e2 with _ _ e3; rw [e3]
  | some ad =>
    obtain ⟨us, hr', hc⟩ := hr.from_
    obtain ⟨rfl, hI2⟩ := RepL.ints_of hr'
    obtain ⟨v', w', hrun, h2, h3, _, h5⟩ := run_append_own_at (P := P) w base t o.type T i z 1 bytes ht hi hz hsize hby hzs (by decide) (.slice A4 xs.length c4) xs.length _ hrow ad m c (ys.map (Value.int .i64)) (by rw [List.length_map, hr.len]; omega) hc hr'.one (by unfold maxLen; omega) hbytes hbase
    have hor := append_or (P := P) w base t o.type T i z 1 bytes ht hi hz hsize hby (.slice A4 xs.length c4) xs.length _ hrow ad m c (ys.map (Value.int .i64)) (by rw [List.length_map, hr.len]; omega) hc hr'.one (by unfold maxLen; omega) hbytes h3 hrun
    unfold execOp
    simp only [ho, resolve, invoke, builtin, Sem.run_bind, Sem.run_pure, Result.andThen_ok, List.map_toArray, List.map_cons, List.map_nil, hs, hx, hrun]
    have hI : ∀ x ∈ xs ++ ys, InI x := fun x hx' => (List.mem_append.1 hx').elim (hI1 x) (hI2 x)
    have hO : OwnL w' base T (fun _ => False) v' (xs ++ ys) := ⟨_, by rw [List.length_append, hr.len]; exact h2, by rw [← List.map_append]; exact RepL.ints _ hI, fun _ _ h => h⟩
    have hws := hw.size
    refine ⟨⟨hO, fun g e => ?_⟩, hw.trans h3, ⟨h3.size, fun b hb hbl => h3.block b hbl fun e => by have := hlt b e.symm; omega, fun r hrr => ?_⟩, fun h => by cases h⟩
    · rcases h5 with h5 | h5
      · refine .inr ⟨h5 ▸ e, ?_⟩
        rcases hor with ⟨g', cap, e1, e2⟩ | hk
        · rw [h5, e1] at e; injection e with e; simp only at e; subst e; rw [e2]; injection e1 with _ _ e3; rw [e3]
        · -- it has not grown: the row is as it was
          have hg4 := hlt g (h5 ▸ e)
          rcases hrow.2 with ⟨e2, _⟩ | ⟨g', cap, cur, e2, _, hh, _, _, hcs, _⟩
          · rw [h5, e2] at e; cases e
          · rw [h5, e2] at e
            injection e with e; simp only at e; subst e
            rcases h2.2 with ⟨e3, _⟩ | ⟨g3, cap3, cur3, e3, _, hh3, _, _, hcs3, _⟩
            · rw [e3] at h5; rw [e2] at h5; cases h5
            · rw [e3, e2] at h5
              injection h5 with h5; simp only at h5; subst h5
              rw [hk g3 (Array.getElem?_eq_some_iff.1 hh).1, hh] at hh3
              injection hh3 with hh3; injection hh3 with hh3; subst hh3
              have q1 : cur.size = cap * 1 := hcs
              injection e2 with _ _ e4
              rw [e3, e4]
              congr 1
              omega
      · rw [h5] at e; injection e with e; exact .inl (by omega)
    · rcases hor with ⟨g', cap, e1, e2⟩ | hk
      · refine .inr ?_
        rw [e1] at hrr; injection hrr with hrr; simp only at hrr; subst hrr
        rw [e2] at hO; injection e1 with _ _ e3; rw [e3]; exact hO
      · exact .inl (hk r (by have := hlt r hrr; omega))
end
end Go.Proofs.Ytbppamjogdjfkaa
