/- Regions that draw their order and make memory: the law. -/
import Derived.Test.YtbppamjogdjfkaaN3
set_option linter.unusedSimpArgs false
set_option linter.unusedVariables false
namespace Go.Proofs.Ytbppamjogdjfkaa
open Go.RowKit

section
variable {P : Program} {ops : Array Oper} {F : World → Prop} {Ws Ms : List Nat} {an : List (List Nat)} {Q : Act → World → Prop}

/-- What the table's Bool says. -/
structure FlowOk (ops : Array Oper) (an : List (List Nat)) (Ws Ms : List Nat) (N : Nat) : Prop where
  sel : Region.noSelect ops = true
  low : ∀ (k : Nat) (o : Oper), ops[k]? = some o → ∀ j ∈ an.getD k [], j < k ∧ ∃ e ∈ o.after, Region.binds .any e = true ∧ (e.on = j ∨ j ∈ an.getD e.on [])
  aft : ∀ (k : Nat) (o : Oper), ops[k]? = some o → ∀ e ∈ o.after, Region.binds .any e = true → e.on < k
  use : ∀ (k : Nat) (o : Oper), ops[k]? = some o → ∀ (j : Nat) (o' : Oper) d, ops[j]? = some o' → o'.dst = some d → d ∈ o.looksAt ops → j ∈ an.getD k [] ∨ k ∈ an.getD j []
  bnd : ∀ (k : Nat) (o : Oper) d, ops[k]? = some o → o.dst = some d → d < N
  one : ∀ (k : Nat) (o : Oper) d, ops[k]? = some o → o.dst = some d → ∀ (j : Nat) (o' : Oper), ops[j]? = some o' → o'.dst = some d → j = k
  wild : ∀ k ∈ Ws, ∀ j ∈ Ms, j = k ∨ k ∈ an.getD j [] ∨ ∀ (i : Nat) (o o' : Oper) d, ops[i]? = some o → ops[j]? = some o' → o'.dst = some d → d ∈ o.looksAt ops → i = k ∨ i ∈ an.getD k []
theorem range_all {n : Nat} {p : Nat → Bool} (h : (List.range n).all p = true) {k : Nat} (hk : k < n) : p k = true := List.all_eq_true.1 h k (List.mem_range.2 hk)
theorem flowOk_of {N : Nat} (h : flowB ops an Ws Ms N = true) : FlowOk ops an Ws Ms N := by
  unfold flowB at h
  simp only [Bool.and_eq_true] at h
  obtain ⟨⟨h1, h2⟩, h3⟩ := h
  have get : ∀ (k : Nat) (o : Oper), ops[k]? = some o → flowOp ops an k o = true ∧ (match o.dst with | none => true | some d => decide (d < N) && (List.range ops.size).all fun j => j == k || (ops[j]?).bind (·.dst) != some d) = true := fun k o ho => by
    have := range_all h2 (Array.getElem?_eq_some_iff.1 ho).1
    rw [ho] at this; exact Bool.and_eq_true_iff.1 this
  have getOp : ∀ (k : Nat) (o : Oper), ops[k]? = some o → _ := fun k o ho => by
    have := (get k o ho).1
    unfold flowOp at this
    simp only [Bool.and_eq_true] at this
    exact this
  refine ⟨h1, fun k o ho j hj => ?_, fun k o ho e he hb => ?_, fun k o ho j o' d ho' hd hl => ?_, fun k o d ho hd => ?_, fun k o d ho hd j o' ho' hd' => ?_, fun k hk j hj => ?_⟩
  · have := List.all_eq_true.1 (getOp k o ho).1.1 j hj
    simp only [Bool.and_eq_true, decide_eq_true_eq] at this
    obtain ⟨a, b⟩ := this
    rw [Array.any_eq_true'] at b
    obtain ⟨e, he, hb⟩ := b
    simp only [Bool.and_eq_true, Bool.or_eq_true, beq_iff_eq, List.contains_iff_mem] at hb
    exact ⟨a, e, he, hb⟩
  · have := (getOp k o ho).1.2
    rw [Array.all_eq_true_iff_forall_mem] at this
    have := this e he
    simp only [hb, Bool.not_true, Bool.false_or, decide_eq_true_eq] at this
    exact this
  · have := range_all (getOp k o ho).2 (Array.getElem?_eq_some_iff.1 ho').1
    simp only [ho', Option.bind_some, hd, Bool.or_eq_true, Bool.not_eq_true', List.contains_iff_mem] at this
    rcases this with (h | h) | h
    · rw [← Bool.not_eq_true, List.contains_iff_mem] at h; exact (h hl).elim
    · exact .inl h
    · exact .inr h
  · have := (get k o ho).2
    simp only [hd, Bool.and_eq_true, decide_eq_true_eq] at this
    exact this.1
  · have := (get k o ho).2
    simp only [hd, Bool.and_eq_true] at this
    have := range_all this.2 (Array.getElem?_eq_some_iff.1 ho').1
    simpa [ho', hd'] using this
  · have := List.all_eq_true.1 (List.all_eq_true.1 h3 k hk) j hj
    simp only [Bool.or_eq_true, beq_iff_eq, List.contains_iff_mem] at this
    rcases this with (h | h) | h
    · exact .inl h
    · exact .inr (.inl h)
    · refine .inr (.inr fun i o o' d ho ho' hd hl => ?_)
      have := range_all h (Array.getElem?_eq_some_iff.1 ho).1
      simp only [ho, ho', Option.bind_some, hd, Bool.or_eq_true, beq_iff_eq, List.contains_iff_mem, Bool.not_eq_true'] at this
      rcases this with (h | h) | h
      · exact .inl h
      · exact .inr h
      · rw [← Bool.not_eq_true, List.contains_iff_mem] at h; exact (h hl).elim

/-- Nothing wild has come up that would spoil what 'j' has left. -/
def liveAt (an : List (List Nat)) (Ws Ms : List Nat) (D : Nat → Kind) (listed : Array Bool) (j : Nat) : Prop := (∃ c, D j = .inl c) ∨ (j ∈ Ms → ∀ k ∈ Ws, listed.getD k false = true → k = j ∨ k ∈ an.getD j [])
structure FlowInv (ops : Array Oper) (F : World → Prop) (an : List (List Nat)) (Ws Ms : List Nat) (a0 : Act) (D : Nat → Kind) (listed : Array Bool) (a : Act) (w : World) : Prop where
  hF : F w
  lsz : listed.size = ops.size
  size : a.tmps.size = a0.tmps.size
  defs : a.defers = a0.defers
  out : ∀ t, (∀ (j : Nat) (o : Oper), ops[j]? = some o → listed.getD j false = true → o.dst ≠ some t) → a.tmps[t]? = a0.tmps[t]?
  closed : ∀ k, listed.getD k false = true → ∀ j ∈ an.getD k [], listed.getD j false = true
  got : ∀ (j : Nat) (o : Oper), ops[j]? = some o → listed.getD j false = true → liveAt an Ws Ms D listed j → ∃ v, postOf (D j) v w ∧ ∀ t, o.dst = some t → v = valOf a (some t)

theorem getD_ff {listed : Array Bool} {i : Nat} (h : listed.getD i true = false) : listed.getD i false = false := by
  rcases Nat.lt_or_ge i listed.size with h' | h'
  · simp [h'] at h ⊢; exact h
  · simp [Array.getElem?_eq_none h']
theorem getD_set {listed : Array Bool} {i j : Nat} (hi : i < listed.size) : (listed.setIfInBounds i true).getD j false = true ↔ j = i ∨ listed.getD j false = true := by
  by_cases e : i = j
  · subst e; simp [hi]
  · rw [getD_set_ne false e]; exact ⟨.inr, fun h => h.resolve_left fun h => e h.symm⟩

theorem FlowInv.step {a0 : Act} {D : Nat → Kind} {listed : Array Bool} {a : Act} {w w' : World} {k : Nat} {o : Oper} {v : Value} (ok : FlowOk ops an Ws Ms a0.tmps.size) (I : FlowInv ops F an Ws Ms a0 D listed a w)
    (ho : ops[k]? = some o) (hr : k ∈ Region.ready .any ops listed) (hst : ∀ c, D k = .inl c ∨ stable F (Ms.contains k) (postOf (D k)))
    (hsts : ∀ (j : Nat) (o : Oper), ops[j]? = some o → ∀ p, D j = .inr p → stable F (Ms.contains j) p)
    (hw : onW F (Ws.contains k) w w') (hp : postOf (D k) v w') : FlowInv ops F an Ws Ms a0 D (listed.setIfInBounds k true) (a.put o.dst v) w' := by
  have hk := (Array.getElem?_eq_some_iff.1 ho).1
  have hkl : k < listed.size := by rw [I.lsz]; exact hk
  have hun := (mem_ready.1 hr).1
  have hunf := getD_ff hun
  refine ⟨hw.1, by simpa using I.lsz, (put_size ..).trans I.size, (put_def ..).trans I.defs, fun t ht => ?_, fun i hi j hj => ?_, fun j o' ho' hj hl => ?_⟩
  · by_cases htt : t < a.tmps.size
    · rw [put_get _ _ _ _ htt, if_neg (ht k o ho ((getD_set hkl).2 (.inl rfl)))]; exact I.out t fun j oj hj hl => ht j oj hj ((getD_set hkl).2 (.inr hl))
    · have := I.out t fun j oj hj hl => ht j oj hj ((getD_set hkl).2 (.inr hl))
      rw [Array.getElem?_eq_none (by rw [put_size]; exact Nat.le_of_not_lt htt), Array.getElem?_eq_none (by rw [← I.size]; exact Nat.le_of_not_lt htt)]
  · rw [getD_set hkl] at hi ⊢
    rcases hi with rfl | hi
    · obtain ⟨_, e, he, hb, hj'⟩ := ok.low i o ho j hj
      obtain ⟨_, o2, ho2, hall⟩ := mem_ready.1 hr
      rw [ho] at ho2; cases ho2
      have := hall e he hb
      rcases hj' with rfl | hj'
      · exact .inr this
      · exact .inr (I.closed _ this j hj')
    · exact .inr (I.closed i hi j hj)
  · rw [getD_set hkl] at hj
    by_cases e : j = k
    · subst e
      rw [ho] at ho'; cases ho'
      refine ⟨v, hp, fun d hd => ?_⟩
      have hb := ok.bnd j o d ho hd
      rw [← I.size] at hb
      have := put_get a o.dst v d hb
      rw [if_pos hd] at this
      simp only [valOf, Array.getD_eq_getD_getElem?, this, Option.getD_some]
    · have hj : listed.getD j false = true := hj.resolve_left e
      have hv : ∀ d, o'.dst = some d → valOf (a.put o.dst v) (some d) = valOf a (some d) := fun d hd => by
        have hb := ok.bnd j o' d ho' hd
        rw [← I.size] at hb
        have := put_get a o.dst v d hb
        rw [if_neg (fun h => e (ok.one k o d ho h j o' ho' hd))] at this
        simp only [valOf, Array.getD_eq_getD_getElem?, this]
      have hl' : liveAt an Ws Ms D listed j := hl.imp id fun hl hm i hi hli => hl hm i hi ((getD_set hkl).2 (.inr hli))
      obtain ⟨x, hpj, hx⟩ := I.got j o' ho' hj hl'
      refine ⟨x, ?_, fun d hd => (hx d hd).trans (hv d hd).symm⟩
      cases hDj : D j with
      | inl c => rw [hDj] at hpj; exact hpj
      | inr p =>
        rw [hDj] at hpj
        have hs := hsts j o' ho' p hDj
        unfold stable at hs
        by_cases hm : j ∈ Ms
        · rw [if_pos (List.contains_iff_mem.2 hm)] at hs
          have hnw : Ws.contains k = false := by
            rw [← Bool.not_eq_true, List.contains_iff_mem]
            intro hkW
            rcases hl.resolve_left (fun ⟨c, hc⟩ => by rw [hDj] at hc; cases hc) hm k hkW ((getD_set hkl).2 (.inl rfl)) with h | h
            · exact e h.symm
            · have := I.closed j hj k h
              rw [hunf] at this; cases this
          obtain ⟨u, rfl⟩ := hw.2 hnw
          exact hs _ _ u I.hF hpj
        · rw [if_neg (by rw [List.contains_iff_mem]; exact hm)] at hs
          exact hs _ _ _ hpj

/-- Two frames that hold the same where an operation looks. -/
theorem wanted_congr {o : Oper} {t t' : Array Value} (h : ∀ d ∈ o.looksAt ops, t[d]? = t'[d]?) : Region.wanted o (yielded ops t) = Region.wanted o (yielded ops t') := by
  unfold Region.wanted
  cases hg : o.guard with
  | none => rfl
  | some gw =>
    obtain ⟨g, want⟩ := gw
    have hy : yielded ops t g = yielded ops t' g := by
      unfold yielded
      cases ht : (ops[g]?).bind (·.dst) with
      | none => rfl
      | some d => simp only [Option.bind_some, h d (by simp [Oper.looksAt, hg, ht])]
    simp only [hy]
theorem execOp_looks {o : Oper} {a a' : Act} (hs : ∀ cs b, o.op ≠ .select cs b) (h : ∀ d ∈ o.looksAt ops, a.tmps[d]? = a'.tmps[d]?) : execOp a.eval o = execOp a'.eval o :=
  execOp_congr o hs fun x hx => by
    cases x with
    | tmp d =>
      have hd : d ∈ o.looksAt ops := List.mem_append_left _ (List.mem_filterMap.2 ⟨.tmp d, by simpa using hx, rfl⟩)
      simp only [Act.eval, Array.getD_eq_getD_getElem?, h d hd]
    | _ => rfl

theorem FlowInv.looks {a0 : Act} {D : Nat → Kind} {listed : Array Bool} {a : Act} {w : World} {k : Nat} {o : Oper} (ok : FlowOk ops an Ws Ms a0.tmps.size) (I : FlowInv ops F an Ws Ms a0 D listed a w)
    (ho : ops[k]? = some o) (hr : k ∈ Region.ready .any ops listed) {G : Act → Prop}
    (h : useH (maskOf ops o (heldD ops D k)) (heldD ops D k) (actD ops a0 D k) w G) : ∃ a' : Act, G a' ∧ ∀ d ∈ o.looksAt ops, a.tmps[d]? = a'.tmps[d]? := by
  have hun := getD_ff (mem_ready.1 hr).1
  obtain ⟨_, o2, ho2, hall⟩ := mem_ready.1 hr
  rw [ho] at ho2; cases ho2
  have hanc : ∀ j ∈ an.getD k [], listed.getD j false = true := fun j hj => by
    obtain ⟨_, e, he, hb, hj'⟩ := ok.low k o ho j hj
    have := hall e he hb
    rcases hj' with rfl | hj'
    · exact this
    · exact I.closed _ this j hj'
  have hsz := actD_size (ops := ops) (a0 := a0) (D := D) k
  have hout := useH_out a _ _ _ (by simp [maskOf]) (fun p hp h1 => ?_) h
  · refine ⟨_, hout, fun d hd => ?_⟩
    by_cases hdN : d < a0.tmps.size
    · rw [(putsFrom_spec a _ _ (by rw [hsz.1, I.size])).2.2 d (by rw [hsz.1]; exact hdN)]
      split
      · rfl
      · rename_i hno
        by_cases hex : ∃ (j : Nat) (oj : Oper), ops[j]? = some oj ∧ oj.dst = some d
        · obtain ⟨j, oj, hj, hjd⟩ := hex
          rcases ok.use k o ho j oj d hj hjd hd with hjk | hkj
          rotate_left
          · have hkj' := (ok.low j oj hj k hkj).1
            have hjun : listed.getD j false ≠ true := fun hl => by have := I.closed j hl k hkj; rw [hun] at this; cases this
            rw [actD_other hdN k (fun j' oj' hlt hj' hjd' => by have := ok.one j oj d hj hjd j' oj' hj' hjd'; omega)]
            exact I.out d fun j' oj' hj' hl hjd' => by have := ok.one j oj d hj hjd j' oj' hj' hjd'; subst this; exact hjun hl
          cases hDj : D j with
          | inl c =>
            obtain ⟨v, hv, hx⟩ := I.got j oj hj (hanc j hjk) (.inl ⟨c, hDj⟩)
            · rw [hDj] at hv
              rw [actD_known hdN hj hjd hDj (fun i o' hi h' => ok.one j oj d hj hjd i o' hi h') k (ok.low k o ho j hjk).1]
              have := hx d hjd
              rw [show v = c from hv] at this
              have hb : d < a.tmps.size := by rw [I.size]; exact hdN
              rw [Array.getElem?_eq_getElem hb]
              simp [valOf, hb] at this
              rw [this]
          | inr p =>
            refine absurd ?_ hno
            rw [List.mem_filterMap]
            refine ⟨(true, ⟨j, oj.dst, p⟩), ?_, by simp [hjd]⟩
            rw [maskOf, List.zip_map_left, List.mem_map]
            have hmem : (⟨j, oj.dst, p⟩ : HeldP) ∈ heldD ops D k := (heldD_mem k _).2 ⟨(ok.low k o ho j hjk).1, oj, hj, rfl, hDj⟩
            refine ⟨(⟨j, oj.dst, p⟩, ⟨j, oj.dst, p⟩), ?_, by simp [hjd, hd]⟩
            obtain ⟨i, hi⟩ := List.mem_iff_getElem?.1 hmem
            exact List.mem_iff_getElem?.2 ⟨i, by simp [List.getElem?_zip_eq_some, hi]⟩
        · rw [actD_other hdN k (fun j oj _ hj hjd => (hex ⟨j, oj, hj, hjd⟩).elim)]
          exact I.out d fun j oj hj _ hjd => hex ⟨j, oj, hj, hjd⟩
    · rw [Array.getElem?_eq_none (by rw [I.size]; exact Nat.le_of_not_lt hdN), Array.getElem?_eq_none (by rw [(putsFrom_spec a _ _ (by rw [hsz.1, I.size])).1, hsz.1]; exact Nat.le_of_not_lt hdN)]
  · obtain ⟨i, hi⟩ := List.mem_iff_getElem?.1 hp
    rw [List.getElem?_zip_eq_some] at hi
    obtain ⟨hi1, hi2⟩ := hi
    have hmem := List.mem_iff_getElem?.2 ⟨i, hi2⟩
    rw [maskOf, List.getElem?_map, hi2] at hi1
    simp only [Option.map_some, Option.some.injEq] at hi1
    obtain ⟨hlt, oj, hj, hjd, hDj⟩ := (heldD_mem k _).1 hmem
    rw [h1] at hi1
    cases hd : p.2.dst with
    | none => rw [hd] at hi1; cases hi1
    | some d =>
      rw [hd] at hi1
      have hd' : d ∈ o.looksAt ops := List.contains_iff_mem.1 hi1
      have hjd' : oj.dst = some d := by rw [← hjd, hd]
      have hjk := (ok.use k o ho _ oj d hj hjd' hd').resolve_right fun h => by have := (ok.low _ oj hj k h).1; omega
      have hlive : liveAt an Ws Ms D listed p.2.idx := .inr fun hm i hi hli => by
        rcases ok.wild i hi _ hm with h | h | h
        · exact .inl h.symm
        · exact .inr h
        · rcases h k o oj d ho hj hjd' hd' with h | h
          · subst h; rw [hun] at hli; cases hli
          · have := I.closed i hli k h; rw [hun] at this; cases this
      obtain ⟨v, hv, hx⟩ := I.got _ oj hj (hanc _ hjk) hlive
      rw [hDj] at hv
      exact ⟨v, hv, fun t ht => by rw [hd] at ht; exact hx t (by rw [hjd']; exact ht)⟩

theorem FlowInv.full {a0 : Act} {D : Nat → Kind} {listed : Array Bool} {a : Act} {w : World} (ok : FlowOk ops an Ws Ms a0.tmps.size) (I : FlowInv ops F an Ws Ms a0 D listed a w) (hr : Region.ready .any ops listed = []) :
    ∀ k, k < ops.size → listed.getD k false = true := by
  intro k
  induction k using Nat.strongRecOn with
  | _ k ih =>
    intro hk
    by_cases h : listed.getD k false = true
    · exact h
    · exfalso
      have hl : k < listed.size := by rw [I.lsz]; exact hk
      have hm : k ∈ Region.ready .any ops listed := mem_ready.2 ⟨by simp [hl] at h ⊢; exact h, ops[k], by simp [hk], fun e he hb => by
        have := ok.aft k ops[k] (by simp [hk]) e he hb
        exact ih _ this (by omega)⟩
      rw [hr] at hm; cases hm

theorem FlowInv.end_ {a0 : Act} {D : Nat → Kind} {listed : Array Bool} {a : Act} {w : World} (ok : FlowOk ops an Ws Ms a0.tmps.size) (I : FlowInv ops F an Ws Ms a0 D listed a w) (hr : Region.ready .any ops listed = [])
    (h : endH (liveOf an Ws Ms (heldD ops D ops.size)) (heldD ops D ops.size) (actD ops a0 D ops.size) w fun a' => Q a' w) : Q a w := by
  have hfull := I.full ok hr
  have hsz := actD_size (ops := ops) (a0 := a0) (D := D) ops.size
  have hout := endH_out a _ _ _ (by simp [liveOf]) (fun p hp h1 => ?_) h
  · have hsp := putsFrom_spec a ((heldD ops D ops.size).map (·.dst)) (actD ops a0 D ops.size) (by rw [hsz.1, I.size])
    have : a = putsFrom a ((heldD ops D ops.size).map (·.dst)) (actD ops a0 D ops.size) := by
      refine act_ext (by rw [hsp.1, hsz.1, I.size]) (by rw [hsp.2.1, hsz.2, I.defs]) fun d hd => ?_
      rw [I.size] at hd
      rw [hsp.2.2 d (by rw [hsz.1]; exact hd)]
      split
      · rfl
      · rename_i hno
        by_cases hex : ∃ (j : Nat) (oj : Oper), ops[j]? = some oj ∧ oj.dst = some d
        · obtain ⟨j, oj, hj, hjd⟩ := hex
          have hjn := (Array.getElem?_eq_some_iff.1 hj).1
          cases hDj : D j with
          | inl c =>
            rw [actD_known hd hj hjd hDj (fun i o' hi h' => ok.one j oj d hj hjd i o' hi h') _ hjn]
            obtain ⟨v, hv, hx⟩ := I.got j oj hj (hfull j hjn) (.inl ⟨c, hDj⟩)
            rw [hDj] at hv
            have := hx d hjd
            rw [show v = c from hv] at this
            have hb : d < a.tmps.size := by rw [I.size]; exact hd
            rw [Array.getElem?_eq_getElem hb]
            simp [valOf, hb] at this
            rw [this]
          | inr p =>
            exact absurd (List.mem_map.2 ⟨⟨j, oj.dst, p⟩, (heldD_mem _ _).2 ⟨hjn, oj, hj, rfl, hDj⟩, hjd⟩) hno
        · rw [actD_other hd _ (fun j oj _ hj hjd => (hex ⟨j, oj, hj, hjd⟩).elim)]
          exact I.out d fun j oj hj _ hjd => hex ⟨j, oj, hj, hjd⟩
    rw [this]; exact hout
  · obtain ⟨i, hi⟩ := List.mem_iff_getElem?.1 hp
    rw [List.getElem?_zip_eq_some] at hi
    obtain ⟨hi1, hi2⟩ := hi
    have hmem := List.mem_iff_getElem?.2 ⟨i, hi2⟩
    rw [liveOf, List.getElem?_map, hi2] at hi1
    simp only [Option.map_some, Option.some.injEq] at hi1
    obtain ⟨hlt, oj, hj, hjd, hDj⟩ := (heldD_mem _ _).1 hmem
    rw [h1] at hi1
    have hlive : liveAt an Ws Ms D listed p.2.idx := .inr fun hm i hi hli => by
      unfold liveB at hi1
      rw [List.contains_iff_mem.2 hm] at hi1
      simp only [Bool.not_true, Bool.false_or] at hi1
      have := List.all_eq_true.1 hi1 i hi
      simp only [Bool.or_eq_true, beq_iff_eq, List.contains_iff_mem] at this
      rcases this with h | h
      · exact .inl h
      · exact .inr h
    obtain ⟨v, hv, hx⟩ := I.got _ oj hj (hfull _ hlt) hlive
    rw [hDj] at hv
    exact ⟨v, hv, fun t ht => hx t (by rw [← hjd]; exact ht)⟩

theorem FlowInv.op {a0 : Act} {D : Nat → Kind} {listed : Array Bool} {a : Act} {w : World} {k : Nat} {Q' : Exit → Act → World → Prop} (hF : ∀ w (u : Ext), F w → F (w.ext u)) (ok : FlowOk ops an Ws Ms a0.tmps.size)
    (hD : ∀ (i : Nat) (o : Oper), ops[i]? = some o → stepD P ops F Ws Ms a0 D i o) (I : FlowInv ops F an Ws Ms a0 D listed a w) (hr : k ∈ Region.ready .any ops listed)
    {K : Act → World → Prop} (hK : ∀ a' w', FlowInv ops F an Ws Ms a0 D (listed.setIfInBounds k true) a' w' → K a' w') : wpOp P ops Q' k K a w := by
  obtain ⟨_, o, ho, _⟩ := mem_ready.1 hr
  have hsts : ∀ (j : Nat) (o : Oper), ops[j]? = some o → ∀ p, D j = .inr p → stable F (Ms.contains j) p := fun j o ho p hp => by
    have := hD j o ho
    unfold stepD at this
    rw [hp] at this
    exact this.1
  have go : ∀ v w', onW F (Ws.contains k) w w' → postOf (D k) v w' → K (a.put o.dst v) w' := fun v w' hw hp => by
    refine hK _ _ (I.step ok ho hr (fun c => ?_) hsts hw hp)
    cases hDk : D k with
    | inl c => exact .inr (by unfold stable; split <;> intros <;> assumption)
    | inr p => exact .inr (hsts k o ho p hDk)
  have self : onW F (Ws.contains k) w w := ⟨I.hF, fun _ => ⟨_, (ext_refl w).choose_spec⟩⟩
  have hs := hD k o ho
  unfold stepD at hs
  have sel := Region.noSelect_spec ok.sel k o
  unfold wpOp
  simp only [ho]
  cases hDk : D k with
  | inl c =>
    simp only [hDk] at hs
    obtain ⟨a', hk, hl⟩ := I.looks ok ho hr (hs w I.hF)
    unfold KnownAt at hk
    rw [← wanted_congr hl, ← execOp_looks (fun cs b => sel cs b ho) hl] at hk
    rw [hDk] at go
    by_cases hw : Region.wanted o (yielded ops a.tmps) = true
    · rw [if_pos hw] at hk ⊢
      left
      unfold Oper.wp
      generalize (execOp a.eval o).run P w = r at hk
      cases r with
      | ok n w' =>
        cases n <;> simp only [knownUpon] at hk <;> simp only [Oper.upon]
        case value u => obtain ⟨rfl, rfl⟩ := hk; exact go _ _ self rfl
        case skip => obtain ⟨rfl, rfl⟩ := hk; exact go _ _ self rfl
        case enter f args =>
          obtain ⟨rfl, hc⟩ := hk
          refine hc.mono ?_
          rintro e w2 ⟨rfl, u, rfl⟩
          exact go _ _ ⟨hF _ u I.hF, fun _ => ⟨u, rfl⟩⟩ rfl
      | halt x w' => simp only [knownUpon] at hk
    · rw [if_neg hw] at hk ⊢
      exact go _ _ self hk.symm
  | inr p =>
    simp only [hDk] at hs
    obtain ⟨a', hk, hl⟩ := I.looks ok ho hr (hs.2 w I.hF)
    unfold HeldAt at hk
    rw [← wanted_congr hl, ← execOp_looks (fun cs b => sel cs b ho) hl] at hk
    rw [hDk] at go
    by_cases hw : Region.wanted o (yielded ops a.tmps) = true
    · rw [if_pos hw] at hk ⊢
      left
      unfold Oper.wp
      generalize (execOp a.eval o).run P w = r at hk
      cases r with
      | ok n w' =>
        cases n <;> simp only [heldUpon] at hk <;> simp only [Oper.upon]
        case value u => exact go _ _ hk.2 hk.1
        case skip => exact go _ _ hk.2 hk.1
        case enter f args =>
          obtain ⟨rfl, hc⟩ := hk
          refine hc.mono ?_
          rintro e w2 ⟨v, rfl, hp, hon⟩
          exact go _ _ hon hp
      | halt x w' => simp only [heldUpon] at hk
    · rw [if_neg hw] at hk ⊢
      exact go _ _ self hk

theorem flow_any {a0 : Act} {D : Nat → Kind} {Q' : Exit → Act → World → Prop} (hF : ∀ w (u : Ext), F w → F (w.ext u)) (ok : FlowOk ops an Ws Ms a0.tmps.size)
    (hD : ∀ (i : Nat) (o : Oper), ops[i]? = some o → stepD P ops F Ws Ms a0 D i o)
    (hE : ∀ w, F w → endH (liveOf an Ws Ms (heldD ops D ops.size)) (heldD ops D ops.size) (actD ops a0 D ops.size) w fun a' => Q' .normal a' w) :
    ∀ (fuel : Nat) (listed : Array Bool) (a : Act) (w : World), listed.toList.count false ≤ fuel → FlowInv ops F an Ws Ms a0 D listed a w → wpAny P .any ops Q' fuel listed a w := by
  intro fuel
  induction fuel with
  | zero =>
    intro listed a w hc I
    have hnil : Region.ready .any ops listed = [] := by
      rw [List.eq_nil_iff_forall_not_mem]
      intro k hk
      have h0 := (mem_ready.1 hk).1
      have hlt : k < listed.size := by
        rcases Nat.lt_or_ge k listed.size with h | h
        · exact h
        · simp [Array.getElem?_eq_none h] at h0
      simp [hlt] at h0
      have : false ∈ listed.toList := by rw [← h0]; simp
      have := List.count_pos_iff.2 this
      omega
    exact ⟨hnil, I.end_ (Q := fun a w => Q' .normal a w) ok hnil (hE w I.hF)⟩
  | succ fuel ih =>
    intro listed a w hc I
    refine ⟨fun hnil => I.end_ (Q := fun a w => Q' .normal a w) ok hnil (hE w I.hF), fun k hk => ?_⟩
    refine I.op hF ok hD hk fun a' w' I' => ih _ a' w' ?_ I'
    have h0 := (mem_ready.1 hk).1
    have hlt : k < listed.size := by
      rcases Nat.lt_or_ge k listed.size with h | h
      · exact h
      · simp [Array.getElem?_eq_none h] at h0
    simp [hlt] at h0
    rw [Array.toList_setIfInBounds]
    have hlt' : k < listed.toList.length := by simpa using hlt
    have hg : listed.toList[k] = false := by simpa using h0
    rw [List.set_eq_take_append_cons_drop]
    rw [if_pos hlt', List.count_append, List.count_cons_of_ne (by simp)]
    have hsplit : listed.toList = listed.toList.take k ++ false :: listed.toList.drop (k + 1) := by
      rw [← hg, List.getElem_cons_drop, List.take_append_drop]
    have := congrArg (List.count false) hsplit
    rw [List.count_append, List.count_cons_self] at this
    omega

/-- **THE LAW.** -/
theorem wp_region_flow {id : Nat} {Q' : Exit → Act → World → Prop} {a : Act} {w : World} {l : List Oper} {F : World → Prop} {Ws Ms : List Nat} {N : Nat} (hm : P.follows .mixedOrders = true) (hN : a.tmps.size = N)
    (hB : flowB l.toArray (ancOf l.toArray) Ws Ms N = true) (hF0 : F w.drew) (hF : ∀ w (u : Ext), F w → F (w.ext u))
    (h : Flow P l.toArray F (ancOf l.toArray) Ws Ms (fun a w => Q' .normal a w) l 0 a []) : (Code.region id l.toArray true).wp P Q' a w := by
  subst hN
  obtain ⟨D, _, hD, hE⟩ := flow_data (ops := l.toArray) (a0 := a) l 0 (fun _ => .inl undef) (by simp) h
  refine wp_region_any hm (flow_any hF (flowOk_of hB) (fun i o ho => hD i o (by omega) ho) (by simpa using hE) _ _ _ _ ?_ ?_)
  · simp
  · refine ⟨hF0, by simp, rfl, rfl, fun _ _ => rfl, fun k hk => ?_, fun j o ho hj => ?_⟩
    · simp [Array.getElem?_replicate] at hk; split at hk <;> simp at hk
    · simp [Array.getElem?_replicate] at hj; split at hj <;> simp at hj

attribute [go_sem] KnownAt knownUpon HeldAt heldUpon
/-- .. of a world that grows. -/
theorem wp_region_flow_ext {id : Nat} {Q' : Exit → Act → World → Prop} {a : Act} {w : World} {l : List Oper} (Ws Ms : List Nat) {N : Nat} (hm : P.follows .mixedOrders = true) (hN : a.tmps.size = N)
    (hB : flowB l.toArray (ancOf l.toArray) Ws Ms N = true)
    (h : Flow P l.toArray (fun w' => ∃ u : Ext, w' = w.ext u) (ancOf l.toArray) Ws Ms (fun a w => Q' .normal a w) l 0 a []) : (Code.region id l.toArray true).wp P Q' a w :=
  wp_region_flow hm hN hB (ext_drew w) (fun _ u ⟨x, hx⟩ => by rw [hx]; exact ext_ext w x u) h
theorem useH_none {a : Act} {w : World} {G : Act → Prop} (h : G a) : ∀ (ms : List Bool) (H : List HeldP), ms.all (! ·) = true → useH ms H a w G
  | [], _, _ => by unfold useH; exact h
  | true :: _, _, hm => by simp at hm
  | false :: ms, [], _ => by unfold useH; exact h
  | false :: ms, _ :: H, hm => by unfold useH; exact useH_none h ms H (by simpa using hm)
section
variable {o : Oper} {rest : List Oper} {k : Nat} {a : Act} {H : List HeldP}
theorem flow_known (hms : (maskOf ops o H).all (! ·) = true)
    (h : ∀ K : Act → Prop, (∀ a, Flow P ops F an Ws Ms Q rest (k + 1) a H → K a) → ∃ c, (∀ w, F w → KnownAt P ops o a c w) ∧ K (a.put o.dst c)) : Flow P ops F an Ws Ms Q (o :: rest) k a H := by
  obtain ⟨c, h1, h2⟩ := h _ fun _ h => h
  exact .inl ⟨c, fun w hw => useH_none (h1 w hw) _ _ hms, h2⟩
theorem flow_known_use (ms : List Bool) (c : Value) (hms : maskOf ops o H = ms) (h1 : ∀ w, F w → useH ms H a w fun a' => KnownAt P ops o a' c w) (h2 : Flow P ops F an Ws Ms Q rest (k + 1) (a.put o.dst c) H) : Flow P ops F an Ws Ms Q (o :: rest) k a H :=
  .inl ⟨c, fun w hw => hms ▸ h1 w hw, h2⟩
theorem flow_held (ms : List Bool) (post : Post) (hms : maskOf ops o H = ms) (hst : stable F (Ms.contains k) post) (h1 : ∀ w, F w → useH ms H a w fun a' => HeldAt P ops F (Ws.contains k) o a' post w)
    (h2 : Flow P ops F an Ws Ms Q rest (k + 1) a (H ++ [⟨k, o.dst, post⟩])) : Flow P ops F an Ws Ms Q (o :: rest) k a H :=
  .inr ⟨post, hst, fun w hw => hms ▸ h1 w hw, h2⟩
theorem flow_held0 (post : Post) (hms : (maskOf ops o H).all (! ·) = true) (hst : stable F (Ms.contains k) post) (h1 : ∀ w, F w → HeldAt P ops F (Ws.contains k) o a post w)
    (h2 : Flow P ops F an Ws Ms Q rest (k + 1) a (H ++ [⟨k, o.dst, post⟩])) : Flow P ops F an Ws Ms Q (o :: rest) k a H :=
  .inr ⟨post, hst, fun w hw => useH_none (h1 w hw) _ _ hms, h2⟩
theorem flow_nil (ms : List Bool) (hms : liveOf an Ws Ms H = ms) (h : ∀ w, F w → endH ms H a w fun a' => Q a' w) : Flow P ops F an Ws Ms Q [] k a H := fun w hw => hms ▸ h w hw
end
theorem useH_nil {H : List HeldP} {a : Act} {w : World} {G : Act → Prop} : useH [] H a w G = G a := by unfold useH; rfl
theorem useH_t {m : List Bool} {h : HeldP} {H : List HeldP} {a : Act} {w : World} {G : Act → Prop} : useH (true :: m) (h :: H) a w G = ∀ v, h.post v w → useH m H (a.put h.dst v) w G := rfl
theorem useH_f {m : List Bool} {h : HeldP} {H : List HeldP} {a : Act} {w : World} {G : Act → Prop} : useH (false :: m) (h :: H) a w G = useH m H a w G := rfl
theorem endH_nil {H : List HeldP} {a : Act} {w : World} {G : Act → Prop} : endH [] H a w G = G a := by unfold endH; rfl
theorem endH_t {m : List Bool} {h : HeldP} {H : List HeldP} {a : Act} {w : World} {G : Act → Prop} : endH (true :: m) (h :: H) a w G = ∀ v, h.post v w → endH m H (a.put h.dst v) w G := rfl
theorem endH_f {m : List Bool} {h : HeldP} {H : List HeldP} {a : Act} {w : World} {G : Act → Prop} : endH (false :: m) (h :: H) a w G = ∀ v, endH m H (a.put h.dst v) w G := rfl
theorem Ret.retX {v : Value} {w : World} {f : FuncId} {args : Array Value} (h : Calls P f args w (Ret v w)) : Calls P f args w (RetX v w) := h.mono fun _ _ ⟨he, hx⟩ => ⟨he, by subst hx; exact ext_refl w⟩
/-- Where the world does not go wild. -/
theorem onW_ext {w0 w w' : World} (h : ∃ x : Ext, w = w0.ext x) (h' : ∃ u : Ext, w' = w.ext u) {b : Bool} : onW (fun w' => ∃ u : Ext, w' = w0.ext u) b w w' := by
  obtain ⟨x, rfl⟩ := h
  obtain ⟨u, rfl⟩ := h'
  exact ⟨ext_ext w0 x u, fun _ => ⟨u, rfl⟩⟩
end
end Go.Proofs.Ytbppamjogdjfkaa
