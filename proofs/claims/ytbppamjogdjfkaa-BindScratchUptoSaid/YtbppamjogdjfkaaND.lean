/- law24: plain: the parts of right ones. law24: plain: the registers of a part's variables (BindApart). law24: plain: the document's way of parts is the program's. -/
import Derived.Test.YtbppamjogdjfkaaNC
set_option linter.unusedSimpArgs false
set_option linter.unusedVariables false
namespace Go.Proofs.Ytbppamjogdjfkaa
theorem part_len24 (s a : Int → Bool) : ∀ l : List Int, (l.filter fun r => s r && !a r).length + ((l.filter fun r => !s r).length + (l.filter fun r => s r && a r).length) = l.length
  | [] => rfl
  | x :: l => by
    have := part_len24 s a l
    simp only [List.filter_cons, List.length_cons]
    cases h1 : s x <;> cases h2 : a x <;> simp <;> omega
theorem left_len24 {m : Machine} {many : Int} (h : fits24 m many = true) : ((left24 m many).length : Int) = m.regs - many := by
  have hf := h
  unfold fits24 at hf
  simp only [Bool.and_eq_true, decide_eq_true_eq] at hf
  have hn := drow_nodup24 m
  rw [← row_eq24 hf.1] at hn
  have hlen := row_len24 hf.1
  have hd : ((row24 m).drop many.toNat).Nodup := by
    rw [← List.take_append_drop many.toNat (row24 m), List.nodup_append] at hn
    exact hn.2.1
  have hm : ∀ x, x ∈ left24 m many ↔ x ∈ (row24 m).drop many.toNat := fun x => by
    unfold left24
    rw [List.mem_filter, mem_regs24, ← mem_drow24 (m := m), ← row_eq24 hf.1]
    rw [← List.take_append_drop many.toNat (row24 m), List.nodup_append] at hn
    have hx : x ∈ row24 m ↔ x ∈ (row24 m).take many.toNat ∨ x ∈ (row24 m).drop many.toNat := by rw [← List.mem_append, List.take_append_drop]
    rw [hx]
    simp only [Bool.not_eq_true', Bool.eq_false_iff, ne_eq, hasI_iff]
    constructor
    · rintro ⟨h1 | h1, h2⟩
      · exact absurd h1 h2
      · exact h1
    · exact fun h1 => ⟨.inr h1, fun h2 => hn.2.2 x h2 x h1 rfl⟩
  have h1 := nodup_len _ _ (((regs24_nodup m.regs.toNat).filter fun r => !hasI r ((row24 m).take many.toNat))) fun x hx => (hm x).1 hx
  have h2 := nodup_len _ _ hd fun x hx => (hm x).2 hx
  have h3 : (left24 m many).length = ((row24 m).drop many.toNat).length := Nat.le_antisymm h1 h2
  rw [h3, List.length_drop, hlen]
  omega
theorem pools_len24 {m : Machine} {many : Int} (h : fits24 m many = true) : ((safe24 m many).length : Int) + (plain24 m many).length = m.regs - many := by
  rw [← left_len24 h]
  unfold safe24 plain24
  rw [if_pos h, if_pos h, List.length_append]
  have := part_len24 (fun r => hasI r m.saved) (fun r => hasI r m.args) (left24 m many)
  omega
theorem safe_in24 {m : Machine} {many : Int} {x : Int} (hx : x ∈ safe24 m many) : fits24 m many = true ∧ x ∈ left24 m many ∧ x ∈ m.saved ∧ x ∉ m.args := by
  unfold safe24 at hx
  split at hx
  · rename_i h
    rw [List.mem_filter] at hx
    simp only [Bool.and_eq_true, Bool.not_eq_true', Bool.eq_false_iff, ne_eq, hasI_iff] at hx
    exact ⟨h, hx.1, hx.2.1, hx.2.2⟩
  · simp at hx
theorem plain_in24 {m : Machine} {many : Int} {x : Int} (hx : x ∈ plain24 m many) : fits24 m many = true ∧ x ∈ left24 m many ∧ (x ∈ m.saved → x ∈ m.args) := by
  unfold plain24 at hx
  split at hx
  · rename_i h
    rw [List.mem_append, List.mem_filter, List.mem_filter] at hx
    simp only [Bool.and_eq_true, Bool.not_eq_true', Bool.eq_false_iff, ne_eq, hasI_iff] at hx
    rcases hx with h1 | h1
    · exact ⟨h, h1.1, fun h2 => absurd h2 h1.2⟩
    · exact ⟨h, h1.1, fun _ => h1.2.2⟩
  · simp at hx
theorem left_in24 {m : Machine} {many : Int} {x : Int} (hx : x ∈ left24 m many) : 0 ≤ x ∧ x < m.regs.toNat ∧ x ∉ (row24 m).take many.toNat := by
  unfold left24 at hx
  rw [List.mem_filter, mem_regs24] at hx
  simp only [Bool.not_eq_true', Bool.eq_false_iff, ne_eq, hasI_iff] at hx
  exact ⟨hx.1.1, hx.1.2, hx.2⟩
theorem pools_apart24 (m : Machine) (many : Int) : (safe24 m many).Nodup ∧ (plain24 m many).Nodup ∧ ∀ x ∈ safe24 m many, x ∉ plain24 m many := by
  refine ⟨(safe_rise24 m many).imp fun h => by omega, (plain_rise24 m many).imp (fun {a b} h e => ?_), fun x hx hp => ?_⟩
  · subst e
    have := h.2 rfl
    omega
  · obtain ⟨_, _, h1, h2⟩ := safe_in24 hx
    exact h2 ((plain_in24 hp).2.2 h1)
theorem partsOk_at24 (colors regs : Int) : ∀ (l : List Part) (n i : Nat) (p : Part), partsOk24 colors regs n l = true → l[i]? = some p → partOk24 p (n + i) colors regs = true
  | [], _, _, _, _, h => by simp at h
  | q :: l, n, 0, p, h, hp => by
    simp only [List.getElem?_cons_zero, Option.some.injEq] at hp
    subst hp
    unfold partsOk24 at h
    simp only [Bool.and_eq_true] at h
    exact h.1
  | q :: l, n, i + 1, p, h, hp => by
    unfold partsOk24 at h
    simp only [Bool.and_eq_true] at h
    rw [show n + (i + 1) = n + 1 + i by omega]
    exact partsOk_at24 colors regs l (n + 1) i p h.2 (by simpa using hp)
structure PartR24 (p : Part) (at_ : Nat) (colors regs : Int) : Prop where
  p0 : -1 ≤ p.parent
  p1 : p.parent < at_
  lc : p.colors.length = p.vars.length
  lw : p.wish.length = p.vars.length
  v : ∀ v ∈ p.vars, 1 ≤ v ∧ v ≤ 200
  vr : p.vars.Pairwise (· < ·)
  c : ∀ c ∈ p.colors, -1 ≤ c ∧ c < colors
  w : ∀ r ∈ p.wish, -1 ≤ r ∧ r < regs
theorem partOk_iff24 {p : Part} {n : Nat} {colors regs : Int} (h : partOk24 p n colors regs = true) : PartR24 p n colors regs := by
  unfold partOk24 at h
  simp only [Bool.and_eq_true, decide_eq_true_eq, List.all_eq_true] at h
  obtain ⟨⟨⟨⟨⟨a1, a2⟩, a3, a4⟩, a5⟩, a6⟩, a7⟩ := h
  obtain ⟨b1, b2⟩ := varsOk_iff24 _ _ a5
  exact ⟨a1, a2, a3, a4, b1, b2, a6, a7⟩
theorem colors_in24 {p : Part} {regs : Nat} {c : Int} : c ∈ colors24 p regs ↔ (0 ≤ c ∧ c < regs) ∧ c ∈ p.colors := by
  unfold colors24
  rw [List.mem_filter, mem_regs24, hasI_iff]
/-- A part of right ones: its registers. -/
structure Told24 (m : Machine) (many : Int) (p : Part) (R : List (Int × Int)) : Prop where
  acc : Acc24 (safe24 m many) (plain24 m many) R
  fst : R.map (·.1) = colors24 p m.regs.toNat
theorem told_at24 {m : Machine} {many : Int} {l : List Part} (h : rightP24 m many l = true) {X : List (Part × List (Int × Int))} (hX : parts24 (safe24 m many) (plain24 m many) m.regs.toNat [] l = X) {i : Nat} {p : Part} (hp : l[i]? = some p) :
    PartR24 p i (m.regs - many) m.regs ∧ ∃ R, X[i]? = some (p, R) ∧ Told24 m many p R ∧ R = bind24 p (par24 (X.take i) p) (safe24 m many) (plain24 m many) [] (colors24 p m.regs.toNat) := by
  unfold rightP24 at h
  simp only [Bool.and_eq_true] at h
  have hr := partOk_iff24 (by have := partsOk_at24 _ _ l 0 i p h.2 hp; rwa [Nat.zero_add] at this)
  obtain ⟨_, _, h3⟩ := parts_at24 _ _ _ l [] X hX
  have hx := h3 i p hp
  simp only [List.length_nil, Nat.zero_add] at hx
  obtain ⟨n1, n2, n3⟩ := pools_apart24 m many
  have hb := bind_acc24 p (par24 (X.take i) p) n1 n2 n3 (colors24 p m.regs.toNat) [] ⟨by simp, by simp, by simp, by simp, by simp⟩ ((regs24_rise _).filter _) fun c hc => by
    obtain ⟨c1, c2⟩ := colors_in24.1 hc
    have := hr.c c c2
    rw [pools_len24 h.1]
    exact ⟨c1.1, this.2, by simp⟩
  exact ⟨hr, _, hx, ⟨hb.1, by rw [hb.2]; rfl⟩, rfl⟩
end Go.Proofs.Ytbppamjogdjfkaa
set_option linter.unusedSimpArgs false
set_option linter.unusedVariables false
namespace Go.Proofs.Ytbppamjogdjfkaa
theorem told_reg24 {m : Machine} {many : Int} {p : Part} {R : List (Int × Int)} {i : Nat} (h : Told24 m many p R) (hr : PartR24 p i (m.regs - many) m.regs) (hf : fits24 m many = true) {k : Nat} {v c : Int} (hv : p.vars[k]? = some v) (hc : p.colors[k]? = some c) :
    regOf24 p.vars p.colors R v = (if c < 0 then -1 else look24 R c) ∧ (0 ≤ c → (c, look24 R c) ∈ R) := by
  refine ⟨regOf_at24 R _ _ k v c hr.vr hv hc, fun h0 => ?_⟩
  have hcm := List.mem_of_getElem? hc
  have hb := hr.c c hcm
  have hff := hf
  unfold fits24 at hff
  simp only [Bool.and_eq_true, decide_eq_true_eq] at hff
  have hin : c ∈ R.map (·.1) := by rw [h.fst]; exact colors_in24.2 ⟨⟨h0, by omega⟩, hcm⟩
  obtain ⟨e, he, rfl⟩ := List.mem_map.1 hin
  rw [look_mem24 h.acc.r he]
  exact he
structure Reg24 (m : Machine) (many c r : Int) : Prop where
  neg : r < 0 ↔ c < 0
  lt : r < m.regs
  sc : hasI r (scratch24 m many) = false
  safe : 0 ≤ c → (decide (c < ((safe24 m many).length : Int)) = hasI r (safe24 m many))
  own : 0 ≤ c → c < ((safe24 m many).length : Int) → hasI r m.saved = true ∧ hasI r m.args = false
theorem reg_facts24 {m : Machine} {many : Int} {p : Part} {R : List (Int × Int)} {i : Nat} (h : Told24 m many p R) (hr : PartR24 p i (m.regs - many) m.regs) (hf : fits24 m many = true) {k : Nat} {v c : Int} (hv : p.vars[k]? = some v) (hc : p.colors[k]? = some c) : Reg24 m many c (regOf24 p.vars p.colors R v) := by
  obtain ⟨e, hin⟩ := told_reg24 h hr hf hv hc
  have hff := hf
  unfold fits24 at hff
  simp only [Bool.and_eq_true, decide_eq_true_eq] at hff
  have hm := right24 hff.1
  have := hm.r1
  rw [e]
  by_cases h0 : c < 0
  · rw [if_pos h0]
    refine ⟨by omega, by omega, ?_, fun h => by omega, fun h => by omega⟩
    rw [Bool.eq_false_iff, ne_eq, hasI_iff]
    unfold scratch24
    rw [if_pos hf, row_eq24 hff.1]
    exact fun hx => by have := mem_drow24.1 (List.mem_of_mem_take hx); omega
  · rw [if_neg h0]
    have hin := hin (by omega)
    obtain ⟨n1, n2, n3⟩ := pools_apart24 m many
    generalize look24 R c = r at hin ⊢
    have hl : r ∈ left24 m many := by
      by_cases hs : c < ((safe24 m many).length : Int)
      · exact (safe_in24 (h.acc.s _ hin hs)).2.1
      · exact (plain_in24 (h.acc.p _ hin (by simp only; omega))).2.1
    obtain ⟨l0, l1, l2⟩ := left_in24 hl
    refine ⟨by omega, by omega, ?_, fun _ => ?_, fun _ hs => ?_⟩
    · rw [Bool.eq_false_iff, ne_eq, hasI_iff]
      unfold scratch24
      rw [if_pos hf]
      exact l2
    · rw [Bool.eq_iff_iff, decide_eq_true_eq, hasI_iff]
      constructor
      · exact fun hs => h.acc.s _ hin hs
      · exact fun hs => Decidable.byContradiction fun hn => n3 _ hs (h.acc.p _ hin (by simp only; omega))
    · obtain ⟨_, _, a, b⟩ := safe_in24 (h.acc.s _ hin hs)
      exact ⟨(hasI_iff _ _).2 a, by rw [Bool.eq_false_iff, ne_eq, hasI_iff]; exact b⟩
theorem nodup_snd24 : ∀ {R : List (Int × Int)} {a b : Int × Int}, (R.map (·.2)).Nodup → a ∈ R → b ∈ R → a.2 = b.2 → a = b
  | x :: R, a, b, h, ha, hb, e => by
    rw [List.map_cons] at h
    obtain ⟨h1, h2⟩ := List.nodup_cons.1 h
    rcases List.mem_cons.1 ha with ea | ha1 <;> rcases List.mem_cons.1 hb with eb | hb1
    · rw [ea, eb]
    · exact absurd (List.mem_map.2 ⟨b, hb1, by rw [← e, ea]⟩) h1
    · exact absurd (List.mem_map.2 ⟨a, ha1, by rw [e, eb]⟩) h1
    · exact nodup_snd24 h2 ha1 hb1 e
theorem reg_one24 {m : Machine} {many : Int} {p : Part} {R : List (Int × Int)} {i : Nat} (h : Told24 m many p R) (hr : PartR24 p i (m.regs - many) m.regs) (hf : fits24 m many = true) {k n : Nat} {v c u d : Int} (hv : p.vars[k]? = some v) (hc : p.colors[k]? = some c) (hu : p.vars[n]? = some u) (hd : p.colors[n]? = some d) (h0 : 0 ≤ regOf24 p.vars p.colors R v) :
    (regOf24 p.vars p.colors R u = regOf24 p.vars p.colors R v) ↔ d = c := by
  obtain ⟨e1, i1⟩ := told_reg24 h hr hf hv hc
  obtain ⟨e2, i2⟩ := told_reg24 h hr hf hu hd
  have n1 := (reg_facts24 h hr hf hv hc).neg
  have n2 := (reg_facts24 h hr hf hu hd).neg
  have hc0 : 0 ≤ c := by omega
  constructor
  · intro e
    have hd0 : 0 ≤ d := by omega
    rw [e1, e2, if_neg (by omega), if_neg (by omega)] at e
    have := nodup_snd24 h.acc.n (i2 hd0) (i1 hc0) e
    exact congrArg Prod.fst this
  · rintro rfl
    rw [e1, e2]
/-- A part of its parent's variables and colors has its registers. -/
theorem told_same24 {m : Machine} {many : Int} {l : List Part} (h : rightP24 m many l = true) {X : List (Part × List (Int × Int))} (hX : parts24 (safe24 m many) (plain24 m many) m.regs.toNat [] l = X) {i j : Nat} {p q : Part} (hp : l[i]? = some p) (hq : l[j]? = some q) (hpar : p.parent = j) (hv : q.vars = p.vars) (hc : q.colors = p.colors) {R Q : List (Int × Int)} (hR : X[i]? = some (p, R)) (hQ : X[j]? = some (q, Q)) : R = Q := by
  have hf : fits24 m many = true := by unfold rightP24 at h; simp only [Bool.and_eq_true] at h; exact h.1
  obtain ⟨r1, R', hR', t1, b1⟩ := told_at24 h hX hp
  obtain ⟨r2, Q', hQ', t2, b2⟩ := told_at24 h hX hq
  obtain rfl : R = R' := by rw [hR] at hR'; exact (Prod.mk.inj (Option.some.inj hR')).2
  obtain rfl : Q = Q' := by rw [hQ] at hQ'; exact (Prod.mk.inj (Option.some.inj hQ')).2
  obtain ⟨n1, n2, n3⟩ := pools_apart24 m many
  have hcs : colors24 q m.regs.toNat = colors24 p m.regs.toNat := by unfold colors24; rw [hc]
  rw [hcs] at b2
  have hji : j < i := by have := r1.p1; omega
  rw [b1]
  refine same_bind24 n1 n2 n3 Q t2.acc.r (colors24 p m.regs.toNat) [] ⟨by simp, by simp, by simp, by simp, by simp⟩ ((regs24_rise _).filter _) (fun c hc => ?_) b2.symm fun c hcin => ?_
  · obtain ⟨c1, c2⟩ := colors_in24.1 hc
    have := r1.c c c2
    rw [pools_len24 hf]
    exact ⟨c1.1, this.2, by simp⟩
  · obtain ⟨c1, c2⟩ := colors_in24.1 hcin
    refine wish_head24 c2 r1.lc fun k v hk hkc => ?_
    unfold par24
    rw [if_neg (by omega), hpar, show ((j : Int)).toNat = j by omega, List.getElem?_take, if_pos hji, hQ]
    show regOf24 q.vars q.colors Q v = look24 Q c
    rw [regOf_at24 Q _ _ k v c r2.vr (by rw [hv]; exact hk) (by rw [hc]; exact hkc), if_neg (by omega)]
end Go.Proofs.Ytbppamjogdjfkaa
set_option linter.unusedSimpArgs false
set_option linter.unusedVariables false
namespace Go.Proofs.Ytbppamjogdjfkaa
/-- The document's regOf. -/
def dregOf24 : List Int → List Int → Int → Int
  | u :: us, r :: rs, v => if u = v then r else dregOf24 us rs v
  | _, _, _ => -1
theorem dregOf_map24 (f : Int → Int) (v : Int) : ∀ us : List Int, dregOf24 us (us.map f) v = if v ∈ us then f v else -1
  | [] => by simp [dregOf24]
  | u :: us => by
    rw [List.map_cons]
    unfold dregOf24
    by_cases h : u = v
    · rw [if_pos h, if_pos (by rw [h]; simp), h]
    · rw [if_neg h, dregOf_map24 f v us]
      by_cases hm : v ∈ us
      · rw [if_pos hm, if_pos (List.mem_cons_of_mem _ hm)]
      · rw [if_neg hm, if_neg (by simp only [List.mem_cons, not_or]; exact ⟨fun e => h e.symm, hm⟩)]
theorem regOf_none24 (acc : List (Int × Int)) (v : Int) : ∀ vs cs : List Int, v ∉ vs → regOf24 vs cs acc v = -1
  | [], _, _ => by simp [regOf24]
  | _ :: _, [], _ => by simp [regOf24]
  | u :: vs, c :: cs, h => by
    simp only [List.mem_cons, not_or] at h
    unfold regOf24
    rw [if_neg (fun e => h.1 e.symm)]
    exact regOf_none24 acc v vs cs h.2
theorem dregOf_eq24 (p : Part) (R : List (Int × Int)) (v : Int) : dregOf24 p.vars (told24 (p, R)) v = regOf24 p.vars p.colors R v := by
  unfold told24
  rw [dregOf_map24]
  split
  · rfl
  · rename_i h
    exact (regOf_none24 R v _ _ h).symm
/-- The registers by the colors. -/
theorem told_colors24 {p : Part} (R : List (Int × Int)) (hl : p.colors.length = p.vars.length) (hr : p.vars.Pairwise (· < ·)) : told24 (p, R) = p.colors.map fun c => if c < 0 then -1 else look24 R c := by
  unfold told24
  refine List.ext_getElem? fun k => ?_
  simp only [List.getElem?_map]
  by_cases hk : k < p.vars.length
  · have hv : p.vars[k]? = some p.vars[k] := List.getElem?_eq_getElem hk
    have hc : p.colors[k]? = some (p.colors[k]'(by omega)) := List.getElem?_eq_getElem (by omega)
    rw [hv, hc, Option.map_some, Option.map_some, regOf_at24 R _ _ k _ _ hr hv hc]
  · rw [List.getElem?_eq_none (by omega), List.getElem?_eq_none (by omega)]
    rfl
/-- The colors, in order. -/
theorem colors_eq24 {p : Part} {at_ : Nat} {colors regs : Int} (hp : PartR24 p at_ colors regs) (hcr : colors ≤ regs) {l : List Int} (hl : l.Pairwise (· < ·)) (hm : ∀ x, x ∈ l ↔ x ∈ p.colors) : (l.filter fun c => decide (0 ≤ c)) = colors24 p regs.toNat := by
  refine rise_eq (hl.filter _) ((regs24_rise _).filter _) fun x => ?_
  rw [List.mem_filter, hm, decide_eq_true_eq]
  show _ ↔ x ∈ colors24 p regs.toNat
  rw [colors_in24]
  constructor
  · rintro ⟨h1, h2⟩
    have := hp.c x h1
    exact ⟨⟨h2, by omega⟩, h1⟩
  · rintro ⟨⟨h1, _⟩, h2⟩
    exact ⟨h2, h1⟩
/-- What the document tries one after the other; a wish below 0 is none of a pool. -/
def okW24 (pool had : List Int) (w : Int) : Bool := hasI w pool && !hasI w had
theorem got_split24 (pool had : List Int) : ∀ (wl : List Int) (w : Int) (rest : List Int), (∀ x ∈ wl, okW24 pool had x = false) → okW24 pool had w = true → got24 (wl ++ w :: rest) pool had = w
  | [], w, rest, _, h => by
    unfold got24
    rw [List.nil_append, List.find?_cons_of_pos (p := fun w => hasI w pool && !hasI w had) h]
  | x :: wl, w, rest, h1, h2 => by
    have hx := h1 x (by simp)
    have := got_split24 pool had wl w rest (fun y hy => h1 y (List.mem_cons_of_mem _ hy)) h2
    unfold got24 at this ⊢
    rw [List.cons_append, List.find?_cons_of_neg (by rw [show (hasI x pool && !hasI x had) = false from hx]; decide)]
    exact this
theorem got_none24 (pool had : List Int) {wl : List Int} (h : ∀ x ∈ wl, okW24 pool had x = false) : got24 wl pool had = match pool.find? fun r => !hasI r had with | some r => r | none => -1 := by
  unfold got24
  rw [List.find?_eq_none.2 (fun x hx => by rw [show (hasI x pool && !hasI x had) = false from h x hx]; decide)]
  rfl
/-- One more wish of a color. -/
theorem wishes_step24 {α : Type} (g : Int × Int → Int) (c : Int) {l : List (Int × Int)} {k : Nat} {x : Int × Int} (hx : l[k]? = some x) : ((l.take (k + 1)).filter fun y => decide (y.2 = c)).map g = ((l.take k).filter fun y => decide (y.2 = c)).map g ++ (if x.2 = c then [g x] else []) := by
  rw [List.take_add_one, hx, Option.toList_some, List.filter_append, List.map_append]
  congr 1
  by_cases h : x.2 = c <;> simp [h]
end Go.Proofs.Ytbppamjogdjfkaa
