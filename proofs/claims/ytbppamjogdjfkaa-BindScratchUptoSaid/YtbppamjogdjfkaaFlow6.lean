/- Regions that draw their order and make memory: what each operation makes lies apart; a tail that is done in order. -/
import Derived.Test.YtbppamjogdjfkaaN5
import Derived.StillTail
set_option linter.unusedSimpArgs false
set_option linter.unusedVariables false
namespace Go.Proofs.Ytbppamjogdjfkaa
open Go.RowKit

section
variable {P : Program} {ops : Array Oper} {F : World → Prop} {Ms : List Nat} {an : List (List Nat)} {Q : Act → World → Prop} {B : Nat}
abbrev Ghost := Nat → Nat × Nat
structure HeldG where
  idx : Nat
  dst : Option Tmp
  post : Nat → Nat → Post
def atG (γ : Ghost) (h : HeldG) : HeldP := ⟨h.idx, h.dst, h.post (γ h.idx).1 (γ h.idx).2⟩
abbrev KindG := Value ⊕ (Nat → Nat → Post)
def kAt (γ : Ghost) (k : Nat) : KindG → Kind
  | .inl c => .inl c
  | .inr p => .inr (p (γ k).1 (γ k).2)
abbrev dAt (γ : Ghost) (D : Nat → KindG) : Nat → Kind := fun k => kAt γ k (D k)
def heldG (ops : Array Oper) (D : Nat → KindG) : Nat → List HeldG
  | 0 => []
  | k + 1 => match D k, ops[k]? with
    | .inr p, some o => heldG ops D k ++ [⟨k, o.dst, p⟩]
    | _, _ => heldG ops D k
theorem heldG_at (γ : Ghost) (D : Nat → KindG) : ∀ n, heldD ops (dAt γ D) n = (heldG ops D n).map (atG γ)
  | 0 => rfl
  | k + 1 => by
    unfold heldD heldG
    rw [heldG_at γ D k]
    cases hD : D k with
    | inl c => simp [dAt, kAt, hD]
    | inr p => cases ops[k]? <;> simp [dAt, kAt, hD, atG]
theorem heldG_congr {D D' : Nat → KindG} : ∀ k, (∀ i, i < k → D i = D' i) → heldG ops D k = heldG ops D' k
  | 0, _ => rfl
  | k + 1, h => by simp only [heldG, h k (by omega), heldG_congr k (fun i hi => h i (by omega))]
theorem heldG_mem {D : Nat → KindG} : ∀ k (h : HeldG), h ∈ heldG ops D k ↔ h.idx < k ∧ ∃ o, ops[h.idx]? = some o ∧ h.dst = o.dst ∧ D h.idx = .inr h.post
  | 0, h => by simp [heldG]
  | k + 1, h => by
    unfold heldG
    have ih := heldG_mem (D := D) k h
    cases hD : D k with
    | inl c =>
      simp only
      rw [ih]
      constructor
      · rintro ⟨h1, h2⟩; exact ⟨by omega, h2⟩
      · rintro ⟨h1, o, h2, h3, h4⟩
        refine ⟨?_, o, h2, h3, h4⟩
        rcases Nat.lt_or_ge h.idx k with h5 | h5
        · exact h5
        · obtain rfl : h.idx = k := by omega
          rw [hD] at h4; cases h4
    | inr p =>
      cases ho : ops[k]? with
      | none =>
        simp only
        rw [ih]
        constructor
        · rintro ⟨h1, h2⟩; exact ⟨by omega, h2⟩
        · rintro ⟨h1, o, h2, h3, h4⟩
          refine ⟨?_, o, h2, h3, h4⟩
          rcases Nat.lt_or_ge h.idx k with h5 | h5
          · exact h5
          · obtain rfl : h.idx = k := by omega
            rw [ho] at h2; cases h2
      | some o =>
        simp only [List.mem_append, List.mem_singleton]
        rw [ih]
        constructor
        · rintro (⟨h1, h2⟩ | rfl)
          · exact ⟨by omega, h2⟩
          · exact ⟨by simp, o, ho, rfl, hD⟩
        · rintro ⟨h1, o', h2, h3, h4⟩
          rcases Nat.lt_or_ge h.idx k with h5 | h5
          · exact .inl ⟨h5, o', h2, h3, h4⟩
          · right
            obtain ⟨i, d, p'⟩ := h
            obtain rfl : i = k := by simp at h1 h5; omega
            simp only at h2 h3 h4
            rw [ho] at h2; cases h2
            rw [hD] at h4; cases h4
            rw [h3]
theorem actD_ghost (γ γ' : Ghost) (D : Nat → KindG) (a0 : Act) : ∀ n, actD ops a0 (dAt γ D) n = actD ops a0 (dAt γ' D) n
  | 0 => rfl
  | k + 1 => by
    unfold actD
    rw [actD_ghost γ γ' D a0 k]
    cases hD : D k <;> simp [dAt, kAt, hD]
/-- What each has made lies in its own part of memory. -/
def ApartG (B : Nat) (γ : Ghost) (H : List HeldG) (w : World) : Prop :=
  (∀ h ∈ H, B ≤ (γ h.idx).1 ∧ (γ h.idx).1 ≤ (γ h.idx).2 ∧ (γ h.idx).2 ≤ w.heap.size) ∧ ∀ h ∈ H, ∀ h' ∈ H, h.idx ≠ h'.idx → (γ h.idx).2 ≤ (γ h'.idx).1 ∨ (γ h'.idx).2 ≤ (γ h.idx).1
/-- What an operation's forerunners have made lies apart. -/
def ApA (an : List (List Nat)) (γ : Ghost) (k : Nat) : Prop := ∀ i j, (an.getD k []).contains i = true → (an.getD k []).contains j = true → i ≠ j → (γ i).2 ≤ (γ j).1 ∨ (γ j).2 ≤ (γ i).1
def FlowI (P : Program) (ops : Array Oper) (F : World → Prop) (B : Nat) (an : List (List Nat)) (Ms : List Nat) (Q : Act → World → Prop) : List Oper → Nat → Act → List HeldG → Prop
  | [], _, a, H => ∀ (γ : Ghost) w, F w → ApartG B γ H w → endH (liveOf an [] Ms (H.map (atG γ))) (H.map (atG γ)) a w fun a' => Q a' w
  | o :: rest, k, a, H =>
    (∃ c, (∀ (γ : Ghost) w, F w → useH (maskOf ops o (H.map (atG γ))) (H.map (atG γ)) a w fun a' => KnownAt P ops o a' c w) ∧ FlowI P ops F B an Ms Q rest (k + 1) (a.put o.dst c) H) ∨
    (∃ post : Nat → Nat → Post, (∀ l h, stable F (Ms.contains k) (post l h)) ∧ (∀ (γ : Ghost) w, F w → ApA an γ k → useH (maskOf ops o (H.map (atG γ))) (H.map (atG γ)) a w fun a' => HeldAt P ops F false o a' (fun v w' => post w.heap.size w'.heap.size v w') w) ∧
      FlowI P ops F B an Ms Q rest (k + 1) a (H ++ [⟨k, o.dst, post⟩]))
def stepI (P : Program) (ops : Array Oper) (F : World → Prop) (an : List (List Nat)) (Ms : List Nat) (a0 : Act) (D : Nat → KindG) (k : Nat) (o : Oper) : Prop :=
  match D k with
  | .inl c => ∀ (γ : Ghost) w, F w → useH (maskOf ops o (heldD ops (dAt γ D) k)) (heldD ops (dAt γ D) k) (actD ops a0 (dAt γ D) k) w fun a' => KnownAt P ops o a' c w
  | .inr p => (∀ l h, stable F (Ms.contains k) (p l h)) ∧ ∀ (γ : Ghost) w, F w → ApA an γ k → useH (maskOf ops o (heldD ops (dAt γ D) k)) (heldD ops (dAt γ D) k) (actD ops a0 (dAt γ D) k) w fun a' => HeldAt P ops F false o a' (fun v w' => p w.heap.size w'.heap.size v w') w
theorem dAt_congr {γ : Ghost} {D D' : Nat → KindG} {k : Nat} (h : ∀ i, i < k → D i = D' i) : ∀ i, i < k → dAt γ D i = dAt γ D' i := fun i hi => by simp [dAt, h i hi]
theorem stepI_congr {a0 : Act} {D D' : Nat → KindG} {k : Nat} {o : Oper} (h : ∀ i, i < k + 1 → D i = D' i) (hs : stepI P ops F an Ms a0 D k o) : stepI P ops F an Ms a0 D' k o := by
  unfold stepI at *
  rw [← h k (by omega)]
  cases hD : D k with
  | inl c =>
    rw [hD] at hs
    intro γ w hw
    have := hs γ w hw
    rw [actD_congr k (dAt_congr (γ := γ) fun i hi => h i (by omega)), heldD_congr k (dAt_congr (γ := γ) fun i hi => h i (by omega))] at this
    exact this
  | inr p =>
    rw [hD] at hs
    refine ⟨hs.1, fun γ w hw hA => ?_⟩
    have := hs.2 γ w hw hA
    rw [actD_congr k (dAt_congr (γ := γ) fun i hi => h i (by omega)), heldD_congr k (dAt_congr (γ := γ) fun i hi => h i (by omega))] at this
    exact this
theorem flow_dataI {a0 : Act} : ∀ (rest : List Oper) (k : Nat) (D : Nat → KindG), (∀ j, j < rest.length → ops[k + j]? = rest[j]?) → FlowI P ops F B an Ms Q rest k (actD ops a0 (dAt (fun _ => (0, 0)) D) k) (heldG ops D k) →
    ∃ D' : Nat → KindG, (∀ i, i < k → D' i = D i) ∧ (∀ i o, k ≤ i → i < k + rest.length → ops[i]? = some o → stepI P ops F an Ms a0 D' i o) ∧
      ∀ (γ : Ghost) w, F w → ApartG B γ (heldG ops D' (k + rest.length)) w → endH (liveOf an [] Ms (heldD ops (dAt γ D') (k + rest.length))) (heldD ops (dAt γ D') (k + rest.length)) (actD ops a0 (dAt γ D') (k + rest.length)) w fun a' => Q a' w
  | [], k, D, hr, h => ⟨D, fun _ _ => rfl, fun i o hi hl ho => by simp at hl; omega, fun γ w hw hap => by
      rw [heldG_at, actD_ghost γ (fun _ => (0, 0))]; exact h γ w hw hap⟩
  | o :: rest, k, D, hr, h => by
    have ho : ops[k]? = some o := by simpa using hr 0 (by simp)
    have hr' : ∀ j, j < rest.length → ops[k + 1 + j]? = rest[j]? := fun j hj => by
      have := hr (j + 1) (by simp; omega)
      rw [show k + (j + 1) = k + 1 + j by omega] at this
      simpa using this
    have upd : ∀ (K : KindG), ∃ D1 : Nat → KindG, (∀ i, i < k → D1 i = D i) ∧ D1 k = K := fun K => ⟨fun i => if i = k then K else D i, fun i hi => by simp [Nat.ne_of_lt hi], by simp⟩
    rcases h with ⟨c, h1, h2⟩ | ⟨p, hst, h1, h2⟩
    · obtain ⟨D1, hd, hk⟩ := upd (.inl c)
      have ha : actD ops a0 (dAt (fun _ => (0, 0)) D1) (k + 1) = (actD ops a0 (dAt (fun _ => (0, 0)) D) k).put o.dst c := by
        have hk' : dAt (fun _ => (0, 0)) D1 k = .inl c := by simp [dAt, kAt, hk]
        simp only [actD, hk', ho, actD_congr k (dAt_congr hd)]
      have hH : heldG ops D1 (k + 1) = heldG ops D k := by simp only [heldG, hk, heldG_congr k hd]
      obtain ⟨D2, hd2, hs2, he2⟩ := flow_dataI rest (k + 1) D1 hr' (by rw [ha, hH]; exact h2)
      refine ⟨D2, fun i hi => (hd2 i (by omega)).trans (hd i hi), fun i o' hi hl ho' => ?_, ?_⟩
      · by_cases e : i = k
        · subst e
          obtain rfl : o = o' := by rw [ho] at ho'; exact Option.some.inj ho'
          refine stepI_congr (D := D1) (fun j hj => (hd2 j hj).symm) ?_
          unfold stepI; rw [hk]
          intro γ w hw
          rw [heldD_congr i (dAt_congr (γ := γ) hd), actD_congr i (dAt_congr (γ := γ) hd), heldG_at, actD_ghost γ (fun _ => (0, 0))]
          exact h1 γ w hw
        · exact hs2 i o' (by omega) (by simp at hl; omega) ho'
      · rw [show k + (o :: rest).length = k + 1 + rest.length by simp; omega]; exact he2
    · obtain ⟨D1, hd, hk⟩ := upd (.inr p)
      have ha : actD ops a0 (dAt (fun _ => (0, 0)) D1) (k + 1) = actD ops a0 (dAt (fun _ => (0, 0)) D) k := by
        have hk' : dAt (fun _ => (0, 0)) D1 k = .inr (p 0 0) := by simp [dAt, kAt, hk]
        simp only [actD, hk', actD_congr k (dAt_congr hd)]
      have hH : heldG ops D1 (k + 1) = heldG ops D k ++ [⟨k, o.dst, p⟩] := by simp only [heldG, hk, ho, heldG_congr k hd]
      obtain ⟨D2, hd2, hs2, he2⟩ := flow_dataI rest (k + 1) D1 hr' (by rw [ha, hH]; exact h2)
      refine ⟨D2, fun i hi => (hd2 i (by omega)).trans (hd i hi), fun i o' hi hl ho' => ?_, ?_⟩
      · by_cases e : i = k
        · subst e
          obtain rfl : o = o' := by rw [ho] at ho'; exact Option.some.inj ho'
          refine stepI_congr (D := D1) (fun j hj => (hd2 j hj).symm) ?_
          unfold stepI; rw [hk]
          refine ⟨hst, fun γ w hw hA => ?_⟩
          rw [heldD_congr i (dAt_congr (γ := γ) hd), actD_congr i (dAt_congr (γ := γ) hd), heldG_at, actD_ghost γ (fun _ => (0, 0))]
          exact h1 γ w hw hA
        · exact hs2 i o' (by omega) (by simp at hl; omega) ho'
      · rw [show k + (o :: rest).length = k + 1 + rest.length by simp; omega]; exact he2
theorem FlowInv.congrD {a0 : Act} {D D' : Nat → Kind} {listed : Array Bool} {a : Act} {w : World} (I : FlowInv ops F an [] Ms a0 D listed a w) (h : ∀ j, listed.getD j false = true → D j = D' j) : FlowInv ops F an [] Ms a0 D' listed a w :=
  ⟨I.hF, I.lsz, I.size, I.defs, I.out, I.closed, fun j o ho hl hlive => by
    rw [← h j hl]; exact I.got j o ho hl (by unfold liveAt at *; rw [h j hl]; exact hlive)⟩

theorem FlowInv.opI {a0 : Act} {D : Nat → KindG} {γ : Ghost} {listed : Array Bool} {a : Act} {w : World} {k : Nat} {o : Oper} {Q' : Exit → Act → World → Prop} (hF : ∀ w (u : Ext), F w → F (w.ext u)) (ok : FlowOk ops an [] Ms a0.tmps.size)
    (hs : stepI P ops F an Ms a0 D k o) (I : FlowInv ops F an [] Ms a0 (dAt γ D) listed a w) (hA : ApA an γ k) (ho : ops[k]? = some o) (hr : k ∈ Region.ready .any ops listed)
    {K : Act → World → Prop} (go : ∀ v w', onW F false w w' → (match D k with | .inl c => v = c | .inr p => p w.heap.size w'.heap.size v w') → K (a.put o.dst v) w') : wpOp P ops Q' k K a w := by
  have self : onW F false w w := ⟨I.hF, fun _ => ⟨_, (ext_refl w).choose_spec⟩⟩
  unfold stepI at hs
  have sel := Region.noSelect_spec ok.sel k o
  unfold wpOp
  simp only [ho]
  cases hDk : D k with
  | inl c =>
    simp only [hDk] at hs go
    obtain ⟨a', hk, hl⟩ := I.looks ok ho hr (hs γ w I.hF)
    unfold KnownAt at hk
    rw [← wanted_congr hl, ← execOp_looks (fun cs b => sel cs b ho) hl] at hk
    by_cases hw : Region.wanted o (yielded ops a.tmps) = true
    · rw [if_pos hw] at hk ⊢
      left
      unfold Oper.wp
      generalize (execOp a.eval o).run P w = r at hk
      cases r with
      | ok n w' =>
        cases n <;> simp only [knownUpon] at hk <;> simp only [Oper.upon]
        case value u => obtain ⟨rfl, rfl⟩ := hk; exact go _ _ self rfl
        case skip => obtain ⟨rfl, rfl⟩ := hk; exact go _ _ self rfl
        case enter f args =>
          obtain ⟨rfl, hc⟩ := hk
          refine hc.mono ?_
          rintro e w2 ⟨rfl, u, rfl⟩
          exact go _ _ ⟨hF _ u I.hF, fun _ => ⟨u, rfl⟩⟩ rfl
      | halt x w' => simp only [knownUpon] at hk
    · rw [if_neg hw] at hk ⊢
      exact go _ _ self hk.symm
  | inr p =>
    simp only [hDk] at hs go
    obtain ⟨a', hk, hl⟩ := I.looks ok ho hr (hs.2 γ w I.hF hA)
    unfold HeldAt at hk
    rw [← wanted_congr hl, ← execOp_looks (fun cs b => sel cs b ho) hl] at hk
    by_cases hw : Region.wanted o (yielded ops a.tmps) = true
    · rw [if_pos hw] at hk ⊢
      left
      unfold Oper.wp
      generalize (execOp a.eval o).run P w = r at hk
      cases r with
      | ok n w' =>
        cases n <;> simp only [heldUpon] at hk <;> simp only [Oper.upon]
        case value u => exact go _ _ hk.2 hk.1
        case skip => exact go _ _ hk.2 hk.1
        case enter f args =>
          obtain ⟨rfl, hc⟩ := hk
          refine hc.mono ?_
          rintro e w2 ⟨v, rfl, hp, hon⟩
          exact go _ _ hon hp
      | halt x w' => simp only [heldUpon] at hk
    · rw [if_neg hw] at hk ⊢
      exact go _ _ self hk

/-- All that stand ahead of the tail have come up. -/
theorem FlowInv.endI {a0 : Act} {D : Nat → Kind} {listed : Array Bool} {a : Act} {w : World} {n : Nat} (ok : FlowOk ops an [] Ms a0.tmps.size) (I : FlowInv ops F an [] Ms a0 D listed a w) (hn : n ≤ ops.size)
    (hfull : ∀ j, j < n → listed.getD j false = true) (hout : ∀ d, (∀ (j : Nat) (o : Oper), j < n → ops[j]? = some o → o.dst ≠ some d) → a.tmps[d]? = a0.tmps[d]?)
    (h : endH (liveOf an [] Ms (heldD ops D n)) (heldD ops D n) (actD ops a0 D n) w fun a' => Q a' w) : Q a w := by
  have hsz := actD_size (ops := ops) (a0 := a0) (D := D) n
  have hout' := endH_out a _ _ _ (by simp [liveOf]) (fun p hp h1 => ?_) h
  · have hsp := putsFrom_spec a ((heldD ops D n).map (·.dst)) (actD ops a0 D n) (by rw [hsz.1, I.size])
    have : a = putsFrom a ((heldD ops D n).map (·.dst)) (actD ops a0 D n) := by
      refine act_ext (by rw [hsp.1, hsz.1, I.size]) (by rw [hsp.2.1, hsz.2, I.defs]) fun d hd => ?_
      rw [I.size] at hd
      rw [hsp.2.2 d (by rw [hsz.1]; exact hd)]
      split
      · rfl
      · rename_i hno
        by_cases hex : ∃ (j : Nat) (oj : Oper), j < n ∧ ops[j]? = some oj ∧ oj.dst = some d
        · obtain ⟨j, oj, hjn, hj, hjd⟩ := hex
          cases hDj : D j with
          | inl c =>
            rw [actD_known hd hj hjd hDj (fun i o' hi h' => ok.one j oj d hj hjd i o' hi h') _ hjn]
            obtain ⟨v, hv, hx⟩ := I.got j oj hj (hfull j hjn) (.inl ⟨c, hDj⟩)
            rw [hDj] at hv
            have := hx d hjd
            rw [show v = c from hv] at this
            have hb : d < a.tmps.size := by rw [I.size]; exact hd
            rw [Array.getElem?_eq_getElem hb]
            simp [valOf, hb] at this
            rw [this]
          | inr p =>
            exact absurd (List.mem_map.2 ⟨⟨j, oj.dst, p⟩, (heldD_mem _ _).2 ⟨hjn, oj, hj, rfl, hDj⟩, hjd⟩) hno
        · rw [actD_other hd _ (fun j oj hjn hj hjd => (hex ⟨j, oj, hjn, hj, hjd⟩).elim)]
          exact hout d fun j oj hjn hj hjd => hex ⟨j, oj, hjn, hj, hjd⟩
    rw [this]; exact hout'
  · obtain ⟨i, hi⟩ := List.mem_iff_getElem?.1 hp
    rw [List.getElem?_zip_eq_some] at hi
    obtain ⟨hi1, hi2⟩ := hi
    have hmem := List.mem_iff_getElem?.2 ⟨i, hi2⟩
    obtain ⟨hlt, oj, hj, hjd, hDj⟩ := (heldD_mem _ _).1 hmem
    have hlive : liveAt an [] Ms D listed p.2.idx := .inr fun hm i hi hli => by cases hi
    obtain ⟨v, hv, hx⟩ := I.got _ oj hj (hfull _ hlt) hlive
    rw [hDj] at hv
    exact ⟨v, hv, fun t ht => hx t (by rw [← hjd]; exact ht)⟩

theorem wpAny_of_seq' {Q' : Exit → Act → World → Prop} : ∀ (l : List Oper) (f k : Nat) (listed : Array Bool) (a : Act) (w : World), (∀ j, l[j]? = ops[k + j]?) →
    Region.seqB .any ops l.length k listed = true → wpList P ops Q' l a w → wpAny P .any ops Q' (l.length + f) listed a w
  | [], 0, _, _, _, _, _, hB, h => ⟨by simpa [Region.seqB] using hB, h⟩
  | [], f + 1, _, listed, _, _, _, hB, h => by
    have h0 : Region.ready .any ops listed = [] := by simpa [Region.seqB] using hB
    rw [show ([] : List Oper).length + (f + 1) = f + 1 by simp]
    exact ⟨fun _ => h, fun i hi => by rw [h0] at hi; cases hi⟩
  | o :: l, f, k, listed, a, w, hl, hB, h => by
    have h0 : ops[k]? = some o := by simpa using (hl 0).symm
    simp only [List.length_cons, Region.seqB, Bool.and_eq_true, decide_eq_true_eq] at hB
    rw [show (o :: l).length + f = (l.length + f) + 1 by simp; omega]
    refine ⟨fun h1 => (by rw [hB.1] at h1; cases h1), fun i hi => ?_⟩
    rw [hB.1] at hi
    have hik : i = k := by simpa using hi
    subst hik
    have hw : wpOp P ops Q' i (wpList P ops Q' l) a w := by unfold wpOp; simp only [h0]; exact h
    exact wpOp_mono (fun a' w' h' => wpAny_of_seq' l f (i + 1) _ a' w' (fun j => by have := hl (j + 1); simpa [Nat.add_assoc, Nat.add_comm 1 j] using this) hB.2 h') hw
def headsOf (n m : Nat) : Array Bool := ((List.range (n + m)).map fun j => decide (j < n)).toArray

theorem flow_anyI {a0 : Act} {D : Nat → KindG} {Q' : Exit → Act → World → Prop} {n : Nat} {tl : List Oper} (hn : ops.size = n + tl.length) (htl : ∀ j, tl[j]? = ops[n + j]?) (hall : ∀ t, n ≤ t → t < ops.size → ∀ j, j < n → j ∈ an.getD t [])
    (hseq : Region.seqB .any ops tl.length n (headsOf n tl.length) = true)
    (hF : ∀ w (u : Ext), F w → F (w.ext u)) (hFB : ∀ w, F w → B ≤ w.heap.size) (ok : FlowOk ops an [] Ms a0.tmps.size)
    (hD : ∀ (i : Nat) (o : Oper), i < n → ops[i]? = some o → stepI P ops F an Ms a0 D i o)
    (hE : ∀ (γ : Ghost) w, F w → ApartG B γ (heldG ops D n) w → endH (liveOf an [] Ms (heldD ops (dAt γ D) n)) (heldD ops (dAt γ D) n) (actD ops a0 (dAt γ D) n) w fun a' => wpList P ops Q' tl a' w) :
    ∀ (fuel : Nat) (listed : Array Bool) (a : Act) (w : World) (γ : Ghost), listed.toList.count false ≤ fuel → (∀ t, n ≤ t → t < ops.size → listed.getD t true = false) → FlowInv ops F an [] Ms a0 (dAt γ D) listed a w →
      (∀ d, (∀ (j : Nat) (o : Oper), j < n → ops[j]? = some o → o.dst ≠ some d) → a.tmps[d]? = a0.tmps[d]?) →
      (∀ j, listed.getD j false = true → B ≤ (γ j).1 ∧ (γ j).1 ≤ (γ j).2 ∧ (γ j).2 ≤ w.heap.size) → (∀ i j, listed.getD i false = true → listed.getD j false = true → i ≠ j → (γ i).2 ≤ (γ j).1 ∨ (γ j).2 ≤ (γ i).1) → wpAny P .any ops Q' fuel listed a w := by
  intro fuel
  induction fuel with
  | zero =>
    intro listed a w γ hc hT I hO hI hP
    have hfull : ∀ j, j < listed.size → listed.getD j false = true := fun j hj => by
      cases hl : listed.getD j false with
      | true => rfl
      | false =>
        have : false ∈ listed.toList := by
          have h2 : listed[j] = false := by simpa [hj] using hl
          rw [← h2]; simp
        have := List.count_pos_iff.2 this
        omega
    have htl0 : tl = [] := by
      cases tl with
      | nil => rfl
      | cons o l =>
        have h1 := hT n (Nat.le_refl _) (by rw [hn]; simp)
        have h2 := hfull n (by rw [I.lsz, hn]; simp)
        rw [getD_ff h1] at h2; cases h2
    subst htl0
    have hnil : Region.ready .any ops listed = [] := by
      rw [List.eq_nil_iff_forall_not_mem]
      intro j hj
      obtain ⟨h0, o, ho, _⟩ := mem_ready.1 hj
      have := hfull j (by rw [I.lsz]; exact (Array.getElem?_eq_some_iff.1 ho).1)
      rw [getD_ff h0] at this; cases this
    refine ⟨hnil, ?_⟩
    have hn' : ops.size = n := by simpa using hn
    exact I.endI (Q := fun a w => wpList P ops Q' [] a w) ok (by omega) (fun j hj => hfull j (by rw [I.lsz]; omega)) hO (hE γ w I.hF ⟨fun h hh => hI _ (hfull _ (by rw [I.lsz]; have := ((heldG_mem _ _).1 hh).1; omega)), fun h hh h' hh' hne => hP _ _ (hfull _ (by rw [I.lsz]; have := ((heldG_mem _ _).1 hh).1; omega)) (hfull _ (by rw [I.lsz]; have := ((heldG_mem _ _).1 hh').1; omega)) hne⟩)
  | succ fuel ih =>
    intro listed a w γ hc hT I hO hI hP
    by_cases hheads : ∀ j, j < n → listed.getD j false = true
    · have hlist : listed = headsOf n tl.length := by
        apply Array.ext
        · rw [I.lsz, hn]; simp [headsOf]
        · intro j h1 h2
          simp only [headsOf, List.getElem_toArray, List.getElem_map, List.getElem_range]
          by_cases hj : j < n
          · have := hheads j hj
            simp [h1] at this
            rw [this]; simp [hj]
          · have := hT j (by omega) (by rw [← I.lsz]; exact h1)
            simp [h1] at this
            rw [this]; simp [hj]
      have hw := I.endI (Q := fun a w => wpList P ops Q' tl a w) ok (by omega) hheads hO (hE γ w I.hF ⟨fun h hh => hI _ (hheads _ ((heldG_mem _ _).1 hh).1), fun h hh h' hh' hne => hP _ _ (hheads _ ((heldG_mem _ _).1 hh).1) (hheads _ ((heldG_mem _ _).1 hh').1) hne⟩)
      have hcount : tl.length ≤ fuel + 1 := by
        refine Nat.le_trans ?_ hc
        rw [hlist]
        simp only [headsOf]
        rw [List.count_eq_countP, List.countP_map]
        have e : List.range (n + tl.length) = List.range n ++ (List.range tl.length).map (n + ·) := List.range_add
        rw [e, List.countP_append, List.countP_map]
        have : List.countP (((fun x => x == false) ∘ fun j => decide (j < n)) ∘ fun x => n + x) (List.range tl.length) = (List.range tl.length).length := by
          rw [List.countP_eq_length]; intro x _; simp
        rw [this]; simp
      obtain ⟨f, hf⟩ : ∃ f, fuel + 1 = tl.length + f := ⟨fuel + 1 - tl.length, by omega⟩
      rw [hf, hlist]
      exact wpAny_of_seq' tl f n _ a w htl hseq hw
    · have hnr : Region.ready .any ops listed ≠ [] := fun h => hheads fun j hj => I.full ok h j (by omega)
      refine ⟨fun h => (hnr h).elim, fun k hk => ?_⟩
      obtain ⟨h0, o, ho, hedges⟩ := mem_ready.1 hk
      have hks := (Array.getElem?_eq_some_iff.1 ho).1
      have hkl : k < listed.size := by rw [I.lsz]; exact hks
      have hkn : k < n := by
        rcases Nat.lt_or_ge k n with h | h
        · exact h
        · exfalso
          refine hheads fun j hj => ?_
          obtain ⟨_, e, he, hb, hje⟩ := ok.low k o ho j (hall k h hks j hj)
          have := hedges e he hb
          rcases hje with rfl | hje
          · exact this
          · exact I.closed _ this j hje
      have lis : ∀ i, (an.getD k []).contains i = true → listed.getD i false = true := fun i hi => by
        obtain ⟨_, e, he, hb, hje⟩ := ok.low k o ho i (by simpa using hi)
        have := hedges e he hb
        rcases hje with rfl | hje
        · exact this
        · exact I.closed _ this i hje
      refine I.opI hF ok (hD k o hkn ho) (fun i j hi hj hne => hP i j (lis i hi) (lis j hj) hne) ho hk fun v w' hw' hp => ?_
      obtain ⟨u, rfl⟩ := hw'.2 rfl
      let γ' : Ghost := fun j => if j = k then (w.heap.size, (w.ext u).heap.size) else γ j
      have hγk : γ' k = (w.heap.size, (w.ext u).heap.size) := by simp [γ']
      have hγj : ∀ j, j ≠ k → γ' j = γ j := fun j hj => by simp [γ', hj]
      have hkf := getD_ff h0
      have hDsame : ∀ j, listed.getD j false = true → dAt γ D j = dAt γ' D j := fun j hj => by
        have : j ≠ k := fun e => by rw [e, hkf] at hj; cases hj
        simp only [dAt]
        cases D j <;> simp [kAt, hγj j this]
      have I' := I.congrD hDsame
      have hst : ∀ (j : Nat) (o : Oper), ops[j]? = some o → ∀ p, dAt γ' D j = .inr p → j < n → stable F (Ms.contains j) p := fun j oj hoj p hpj hjn => by
        have := hD j oj hjn hoj
        unfold stepI at this
        cases hDj : D j with
        | inl c => simp [dAt, kAt, hDj] at hpj
        | inr q =>
          rw [hDj] at this
          simp [dAt, kAt, hDj] at hpj
          rw [← hpj]; exact this.1 _ _
      -- the tail's data do not matter: make them known
      let D' : Nat → Kind := fun j => if j < n then dAt γ' D j else .inl undef
      have hD'lt : ∀ j, j < n → D' j = dAt γ' D j := fun j hj => by simp [D', hj]
      have listedlt : ∀ j, listed.getD j false = true → j < n := fun j hj => by
        rcases Nat.lt_or_ge j n with h | h
        · exact h
        · exfalso
          by_cases hjs : j < ops.size
          · have := hT j h hjs
            rw [getD_ff this] at hj; cases hj
          · simp [Array.getElem?_eq_none (show listed.size ≤ j by rw [I.lsz]; omega)] at hj
      have I'' := I'.congrD (D' := D') (fun j hj => (hD'lt j (listedlt j hj)).symm)
      have hsts' : ∀ (j : Nat) (o : Oper), ops[j]? = some o → ∀ p, D' j = .inr p → stable F (Ms.contains j) p := fun j oj hoj p hpj => by
        by_cases hjn : j < n
        · rw [hD'lt j hjn] at hpj; exact hst j oj hoj p hpj hjn
        · simp [D', hjn] at hpj
      have hpk : postOf (D' k) v (w.ext u) := by
        rw [hD'lt k hkn]
        cases hDk : D k with
        | inl c => rw [hDk] at hp; simpa [dAt, kAt, hDk, postOf] using hp
        | inr p => rw [hDk] at hp; simpa [dAt, kAt, hDk, postOf, hγk] using hp
      have J := I''.step ok ho hk (fun c => by
        cases hDk : D' k with
        | inl c => exact .inr (by unfold stable; split <;> intros <;> assumption)
        | inr p => exact .inr (hsts' k o ho p hDk)) hsts' (by simpa using hw') hpk
      have hset : ∀ j, (listed.setIfInBounds k true).getD j false = true → j = k ∨ listed.getD j false = true := fun j hj => (getD_set hkl).1 hj
      have J' := J.congrD (D' := dAt γ' D) (fun j hj => by
        rcases hset j hj with rfl | hj
        · exact hD'lt _ hkn
        · exact hD'lt _ (listedlt j hj))
      refine ih _ _ _ γ' ?_ (fun t ht hts => by rw [getD_set_ne true (by omega)]; exact hT t ht hts) J' (fun d hd => ?_) (fun j hj => ?_) (fun i j hi hj hne => ?_)
      · have hlt := hkl
        have h0' := h0
        simp [hlt] at h0'
        rw [Array.toList_setIfInBounds]
        have hlt' : k < listed.toList.length := by simpa using hlt
        have hg : listed.toList[k] = false := by simpa using h0'
        rw [List.set_eq_take_append_cons_drop]
        rw [if_pos hlt', List.count_append, List.count_cons_of_ne (by simp)]
        have hsplit : listed.toList = listed.toList.take k ++ false :: listed.toList.drop (k + 1) := by
          rw [← hg, List.getElem_cons_drop, List.take_append_drop]
        have := congrArg (List.count false) hsplit
        rw [List.count_append, List.count_cons_self] at this
        omega
      · by_cases hdt : d < a.tmps.size
        · rw [put_get _ _ _ _ hdt, if_neg (hd k o hkn ho)]; exact hO d hd
        · have := hO d hd
          rw [Array.getElem?_eq_none (by rw [put_size]; exact Nat.le_of_not_lt hdt), Array.getElem?_eq_none (by rw [← I.size]; exact Nat.le_of_not_lt hdt)]
      · rcases hset j hj with rfl | hj
        · rw [hγk]; exact ⟨hFB w I.hF, by rw [size_ext]; simp, Nat.le_refl _⟩
        · have : j ≠ k := fun e => by rw [e, hkf] at hj; cases hj
          rw [hγj j this]
          have := hI j hj
          exact ⟨this.1, this.2.1, by rw [size_ext]; omega⟩
      · rcases hset i hi with hi | hi <;> rcases hset j hj with hj | hj
        · exact absurd (hi.trans hj.symm) hne
        · have h1 : j ≠ k := fun e => by rw [e, hkf] at hj; cases hj
          rw [hi, hγk, hγj j h1]; exact .inr (hI j hj).2.2
        · have h1 : i ≠ k := fun e => by rw [e, hkf] at hi; cases hi
          rw [hj, hγk, hγj i h1]; exact .inl (hI i hi).2.2
        · have h1 : i ≠ k := fun e => by rw [e, hkf] at hi; cases hi
          have h2 : j ≠ k := fun e => by rw [e, hkf] at hj; cases hj
          rw [hγj i h1, hγj j h2]; exact hP i j hi hj hne
def tailB (l : List Oper) (n : Nat) : Bool :=
  decide (n ≤ l.length) && (List.range (l.length - n)).all (fun t => (List.range n).all fun j => ((ancOf l.toArray).getD (n + t) []).contains j) && Region.seqB .any l.toArray (l.length - n) n (headsOf n (l.length - n))
/-- **THE LAW**: what the operations make lies apart; from operation n on they are done in order, behind all others. -/
theorem wp_region_flowI {id : Nat} {Q' : Exit → Act → World → Prop} {a : Act} {w : World} {l : List Oper} (Ms : List Nat) {N : Nat} (n : Nat) (hm : P.follows .mixedOrders = true) (hN : a.tmps.size = N)
    (hB : flowB l.toArray (ancOf l.toArray) [] Ms N = true) (hT : tailB l n = true)
    (h : FlowI P l.toArray (extF w) w.heap.size (ancOf l.toArray) Ms (fun a w => wpList P l.toArray Q' (l.drop n) a w) (l.take n) 0 a []) : (Code.region id l.toArray true).wp P Q' a w := by
  subst hN
  unfold tailB at hT
  simp only [Bool.and_eq_true, decide_eq_true_eq] at hT
  obtain ⟨⟨hnl, hall⟩, hseq⟩ := hT
  have hlen : (l.take n).length = n := by rw [List.length_take]; omega
  have hdl : (l.drop n).length = l.length - n := by simp
  obtain ⟨D, hD0, hD, hE⟩ := flow_dataI (ops := l.toArray) (a0 := a) (l.take n) 0 (fun _ => .inl undef) (fun j hj => by rw [hlen] at hj; simp [List.getElem?_take, hj]) h
  simp only [Nat.zero_add, hlen] at hD hE
  refine wp_region_any hm (flow_anyI (D := D) (n := n) (tl := l.drop n) (B := w.heap.size) (by simp; omega) (fun j => by simp [List.getElem?_drop]) (fun t ht hts j hj => ?_) (by rw [hdl]; exact hseq) (fun _ u ⟨x, hx⟩ => by rw [hx]; exact ext_ext w x u) (fun w' ⟨u, hu⟩ => by rw [hu, size_ext]; omega) (flowOk_of hB)
    (fun i o hi ho => hD i o (by omega) hi ho) hE _ _ _ _ (fun _ => (0, 0)) ?_ ?_ ?_ ?_ ?_ ?_)
  · have h1 := List.all_eq_true.1 hall (t - n) (List.mem_range.2 (by simp at hts; omega))
    have h2 := List.all_eq_true.1 h1 j (List.mem_range.2 hj)
    rw [show n + (t - n) = t by omega] at h2
    simpa using h2
  · simp
  · intro t _ hts
    simp at hts
    simp [hts]
  · refine ⟨ext_drew w, by simp, rfl, rfl, fun _ _ => rfl, fun k hk => ?_, fun j o ho hj => ?_⟩
    · simp [Array.getElem?_replicate] at hk; split at hk <;> simp at hk
    · simp [Array.getElem?_replicate] at hj; split at hj <;> simp at hj
  · intro d _; rfl
  · intro j hj; simp [Array.getElem?_replicate] at hj; split at hj <;> simp at hj
  · intro i j hi _ _; simp [Array.getElem?_replicate] at hi; split at hi <;> simp at hi
def maskG (ops : Array Oper) (o : Oper) (H : List HeldG) : List Bool := H.map fun h => match h.dst with | none => false | some d => (o.looksAt ops).contains d
theorem maskG_at (o : Oper) (γ : Ghost) (H : List HeldG) : maskOf ops o (H.map (atG γ)) = maskG ops o H := by
  unfold maskOf maskG; rw [List.map_map]; rfl
section
variable {o : Oper} {rest : List Oper} {k : Nat} {a : Act} {H : List HeldG} {w0 : World}
theorem flowI_known (hms : (maskG ops o H).all (! ·) = true)
    (h : ∀ K : Act → Prop, (∀ a, FlowI P ops (extF w0) B an Ms Q rest (k + 1) a H → K a) → ∃ c, (∀ u : Ext, KnownAt P ops o a c (w0.ext u)) ∧ K (a.put o.dst c)) : FlowI P ops (extF w0) B an Ms Q (o :: rest) k a H := by
  obtain ⟨c, h1, h2⟩ := h _ fun _ h => h
  exact .inl ⟨c, fun γ w ⟨u, hu⟩ => useH_none (by rw [hu]; exact h1 u) _ _ (by rw [maskG_at]; exact hms), h2⟩
theorem flowI_keep (ms : List Bool) (post : Nat → Nat → Post) (hms : maskG ops o H = ms) (hst : ∀ l h, stable (extF w0) (Ms.contains k) (post l h))
    (h1 : ∀ (γ : Ghost) (u : Ext), useH ms (H.map (atG γ)) a (w0.ext u) fun a' => HeldAt P ops (extF w0) false o a' (fun v w' => post (w0.ext u).heap.size w'.heap.size v w') (w0.ext u))
    (h2 : FlowI P ops (extF w0) B an Ms Q rest (k + 1) a (H ++ [⟨k, o.dst, post⟩])) : FlowI P ops (extF w0) B an Ms Q (o :: rest) k a H :=
  .inr ⟨post, hst, fun γ w ⟨u, hu⟩ _ => by rw [maskG_at, hms, hu]; exact h1 γ u, h2⟩
theorem flowI_keepA (ms : List Bool) (post : Nat → Nat → Post) (hms : maskG ops o H = ms) (hst : ∀ l h, stable (extF w0) (Ms.contains k) (post l h))
    (h1 : ∀ (γ : Ghost) (u : Ext), ApA an γ k → useH ms (H.map (atG γ)) a (w0.ext u) fun a' => HeldAt P ops (extF w0) false o a' (fun v w' => post (w0.ext u).heap.size w'.heap.size v w') (w0.ext u))
    (h2 : FlowI P ops (extF w0) B an Ms Q rest (k + 1) a (H ++ [⟨k, o.dst, post⟩])) : FlowI P ops (extF w0) B an Ms Q (o :: rest) k a H :=
  .inr ⟨post, hst, fun γ w ⟨u, hu⟩ hA => by rw [maskG_at, hms, hu]; exact h1 γ u hA, h2⟩
theorem flowI_keep0 (post : Nat → Nat → Post) (hms : (maskG ops o H).all (! ·) = true) (hst : ∀ l h, stable (extF w0) (Ms.contains k) (post l h))
    (h1 : ∀ u : Ext, HeldAt P ops (extF w0) false o a (fun v w' => post (w0.ext u).heap.size w'.heap.size v w') (w0.ext u))
    (h2 : FlowI P ops (extF w0) B an Ms Q rest (k + 1) a (H ++ [⟨k, o.dst, post⟩])) : FlowI P ops (extF w0) B an Ms Q (o :: rest) k a H :=
  .inr ⟨post, hst, fun γ w ⟨u, hu⟩ _ => useH_none (by rw [hu]; exact h1 u) _ _ (by rw [maskG_at]; exact hms), h2⟩
theorem flowI_out (ms : List Bool) (c : Value) (hms : maskG ops o H = ms) (h1 : ∀ (γ : Ghost) (u : Ext), useH ms (H.map (atG γ)) a (w0.ext u) fun a' => KnownAt P ops o a' c (w0.ext u))
    (h2 : FlowI P ops (extF w0) B an Ms Q rest (k + 1) (a.put o.dst c) H) : FlowI P ops (extF w0) B an Ms Q (o :: rest) k a H :=
  .inl ⟨c, fun γ w ⟨u, hu⟩ => by rw [maskG_at, hms, hu]; exact h1 γ u, h2⟩
theorem live_all (an : List (List Nat)) (Ms : List Nat) : ∀ H : List HeldP, liveOf an [] Ms H = H.map fun _ => true := fun H => by
  unfold liveOf; apply List.map_congr_left; intro h _; simp [liveB]
theorem flowI_done (ms : List Bool) (hms : (H.map fun _ => true) = ms) (h : ∀ (γ : Ghost) (u : Ext), ApartG B γ H (w0.ext u) → endH ms (H.map (atG γ)) a (w0.ext u) fun a' => Q a' (w0.ext u)) : FlowI P ops (extF w0) B an Ms Q [] k a H := fun γ w ⟨u, hu⟩ hap => by
  rw [live_all, List.map_map]
  rw [show (H.map ((fun _ => true) ∘ atG γ)) = ms by rw [← hms]; rfl]
  rw [hu] at hap ⊢
  exact h γ u hap
end
end
end Go.Proofs.Ytbppamjogdjfkaa
