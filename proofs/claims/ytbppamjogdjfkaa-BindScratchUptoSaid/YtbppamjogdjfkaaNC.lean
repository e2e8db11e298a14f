/- law24: plain: parts, and their registers. law24: plain: what BindApart asks of the parts. -/
import Derived.Test.YtbppamjogdjfkaaN8
import Derived.Test.YtbppamjogdjfkaaN1
set_option linter.unusedSimpArgs false
set_option linter.unusedVariables false
namespace Go.Proofs.Ytbppamjogdjfkaa
/-- The register of a color. -/
def look24 (acc : List (Int × Int)) (c : Int) : Int := (acc.lookup c).getD 0
/-- The register of a variable. -/
def regOf24 : List Int → List Int → List (Int × Int) → Int → Int
  | v :: vs, c :: cs, acc, x => if v = x then (if c < 0 then -1 else look24 acc c) else regOf24 vs cs acc x
  | _, _, _, _ => -1
def wishes24 (p : Part) (par : Int → Int) (color : Int) : List Int :=
  ((p.vars.zip p.colors).filter fun x => decide (x.2 = color)).map (fun x => par x.1) ++ ((p.wish.zip p.colors).filter fun x => decide (x.2 = color)).map (fun x => x.1)
def got24 (wl pool had : List Int) : Int :=
  match wl.find? fun w => hasI w pool && !hasI w had with
  | some w => w
  | none => match pool.find? fun r => !hasI r had with
    | some r => r
    | none => -1
def pool24 (safe plain : List Int) (c : Int) : List Int := if c < (safe.length : Int) then safe else plain
def bind24 (p : Part) (par : Int → Int) (safe plain : List Int) : List (Int × Int) → List Int → List (Int × Int)
  | acc, [] => acc
  | acc, c :: l => bind24 p par safe plain (acc ++ [(c, got24 (wishes24 p par c) (pool24 safe plain c) (acc.map (·.2)))]) l
def colors24 (p : Part) (regs : Nat) : List Int := (regs24 regs).filter fun c => hasI c p.colors
def par24 (done : List (Part × List (Int × Int))) (p : Part) (v : Int) : Int :=
  if p.parent < 0 then -1 else match done[p.parent.toNat]? with
    | some (q, acc) => regOf24 q.vars q.colors acc v
    | none => -1
def parts24 (safe plain : List Int) (regs : Nat) : List (Part × List (Int × Int)) → List Part → List (Part × List (Int × Int))
  | done, [] => done
  | done, p :: l => parts24 safe plain regs (done ++ [(p, bind24 p (par24 done p) safe plain [] (colors24 p regs))]) l
def told24 (x : Part × List (Int × Int)) : List Int := x.1.vars.map (regOf24 x.1.vars x.1.colors x.2)
def varsOk24 : Int → List Int → Bool
  | _, [] => true
  | least, v :: l => decide (least ≤ v) && decide (v ≤ 200) && varsOk24 (v + 1) l
def partOk24 (p : Part) (at_ : Nat) (colors regs : Int) : Bool :=
  (decide (-1 ≤ p.parent) && decide (p.parent < at_)) && (decide (p.colors.length = p.vars.length) && decide (p.wish.length = p.vars.length)) && varsOk24 1 p.vars && (p.colors.all fun c => decide (-1 ≤ c) && decide (c < colors)) && (p.wish.all fun r => decide (-1 ≤ r) && decide (r < regs))
def partsOk24 (colors regs : Int) : Nat → List Part → Bool
  | _, [] => true
  | n, p :: l => partOk24 p n colors regs && partsOk24 colors regs (n + 1) l
def rightP24 (m : Machine) (many : Int) (l : List Part) : Bool := fits24 m many && partsOk24 (m.regs - many) m.regs 0 l
def of24 (m : Machine) (many : Int) (l : List Part) : List (List Int) × Int :=
  if rightP24 m many l = true then ((parts24 (safe24 m many) (plain24 m many) m.regs.toNat [] l).map told24, 0) else ([], 2)
/-! ### a pool never runs dry -/
theorem got_in24 {wl pool had : List Int} (h : ∃ r ∈ pool, r ∉ had) : got24 wl pool had ∈ pool ∧ got24 wl pool had ∉ had := by
  unfold got24
  split
  · rename_i w hw
    have := List.find?_some hw
    simp only [Bool.and_eq_true, Bool.not_eq_true', Bool.eq_false_iff, ne_eq, hasI_iff] at this
    exact this
  · split
    · rename_i r hr
      have h1 := List.find?_some hr
      have h2 := List.mem_of_find?_eq_some hr
      simp only [Bool.not_eq_true', Bool.eq_false_iff, ne_eq, hasI_iff] at h1
      exact ⟨h2, h1⟩
    · rename_i hn
      obtain ⟨r, hr, hh⟩ := h
      have := List.find?_eq_none.1 hn r hr
      simp only [Bool.not_eq_true', Bool.eq_false_iff, ne_eq, hasI_iff, Decidable.not_not] at this
      exact absurd this hh
structure Acc24 (safe plain : List Int) (acc : List (Int × Int)) : Prop where
  s : ∀ e ∈ acc, e.1 < (safe.length : Int) → e.2 ∈ safe
  p : ∀ e ∈ acc, (safe.length : Int) ≤ e.1 → e.2 ∈ plain
  n : (acc.map (·.2)).Nodup
  r : (acc.map (·.1)).Pairwise (· < ·)
  z : ∀ e ∈ acc, 0 ≤ e.1
theorem room24 {safe plain : List Int} {acc : List (Int × Int)} (h : Acc24 safe plain acc) (hs : safe.Nodup) (hp : plain.Nodup) (hd : ∀ x ∈ safe, x ∉ plain) {c : Int} (hc0 : 0 ≤ c) (hc : c < (safe.length : Int) + plain.length) (hl : ∀ e ∈ acc, e.1 < c) :
    ∃ r ∈ pool24 safe plain c, r ∉ acc.map (·.2) := by
  refine Decidable.byContradiction fun hno => ?_
  have hall : ∀ r ∈ pool24 safe plain c, r ∈ acc.map (·.2) := fun r hr => Decidable.byContradiction fun h' => hno ⟨r, hr, h'⟩
  have hnf : ∀ q : Int × Int → Bool, ((acc.filter q).map (·.1)).Nodup := fun q => by
    have h1 : (acc.filter q).map (·.1) |>.Pairwise (· < ·) := by
      have := h.r
      rw [List.pairwise_map] at this ⊢
      exact this.filter _
    exact h1.imp fun h => by omega
  unfold pool24 at hall
  split at hall
  · rename_i hlt
    have h1 := nodup_len safe ((acc.filter fun e => decide (e.1 < (safe.length : Int))).map (·.2)) hs fun x hx => by
      obtain ⟨e, he, rfl⟩ := List.mem_map.1 (hall x hx)
      refine List.mem_map.2 ⟨e, List.mem_filter.2 ⟨he, ?_⟩, rfl⟩
      simp only [decide_eq_true_eq]
      exact Decidable.byContradiction fun h' => hd _ hx (h.p e he (by omega))
    have h2 := nodup_len _ (regs24 c.toNat) (hnf fun e => decide (e.1 < (safe.length : Int))) fun x hx => by
      obtain ⟨e, he, rfl⟩ := List.mem_map.1 hx
      have he := (List.mem_filter.1 he).1
      have := h.z e he
      have := hl e he
      exact mem_regs24.2 (by omega)
    rw [regs24_len, List.length_map] at h2
    rw [List.length_map] at h1
    omega
  · rename_i hge
    have h1 := nodup_len plain ((acc.filter fun e => decide ((safe.length : Int) ≤ e.1)).map (·.2)) hp fun x hx => by
      obtain ⟨e, he, rfl⟩ := List.mem_map.1 (hall x hx)
      refine List.mem_map.2 ⟨e, List.mem_filter.2 ⟨he, ?_⟩, rfl⟩
      simp only [decide_eq_true_eq]
      exact Decidable.byContradiction fun h' => hd _ (h.s e he (by omega)) hx
    have h2 := nodup_len _ ((regs24 (c - safe.length).toNat).map (· + (safe.length : Int))) (hnf fun e => decide ((safe.length : Int) ≤ e.1)) fun x hx => by
      obtain ⟨e, he, rfl⟩ := List.mem_map.1 hx
      have h3 := (List.mem_filter.1 he).2
      simp only [decide_eq_true_eq] at h3
      have he := (List.mem_filter.1 he).1
      have := hl e he
      exact List.mem_map.2 ⟨e.1 - safe.length, mem_regs24.2 (by omega), by omega⟩
    rw [List.length_map, List.length_map, regs24_len] at h2
    rw [List.length_map] at h1
    omega
theorem bind_acc24 (p : Part) (par : Int → Int) {safe plain : List Int} (hs : safe.Nodup) (hp : plain.Nodup) (hd : ∀ x ∈ safe, x ∉ plain) : ∀ (cs : List Int) (acc : List (Int × Int)), Acc24 safe plain acc → cs.Pairwise (· < ·) → (∀ c ∈ cs, 0 ≤ c ∧ c < (safe.length : Int) + plain.length ∧ ∀ e ∈ acc, e.1 < c) →
    Acc24 safe plain (bind24 p par safe plain acc cs) ∧ (bind24 p par safe plain acc cs).map (·.1) = acc.map (·.1) ++ cs
  | [], acc, h, _, _ => ⟨h, by simp [bind24]⟩
  | c :: cs, acc, h, hr, hc => by
    obtain ⟨h1, h2⟩ := List.pairwise_cons.1 hr
    obtain ⟨c0, c1, c2⟩ := hc c (by simp)
    obtain ⟨g1, g2⟩ := got_in24 (wl := wishes24 p par c) (room24 h hs hp hd c0 c1 c2)
    generalize hg : got24 (wishes24 p par c) (pool24 safe plain c) (acc.map (·.2)) = g at g1 g2
    have hn : Acc24 safe plain (acc ++ [(c, g)]) := by
      refine ⟨?_, ?_, ?_, ?_, ?_⟩
      · intro e he hlt
        rcases List.mem_append.1 he with he | he
        · exact h.s e he hlt
        · obtain rfl := List.mem_singleton.1 he
          unfold pool24 at g1
          rw [if_pos hlt] at g1
          exact g1
      · intro e he hlt
        rcases List.mem_append.1 he with he | he
        · exact h.p e he hlt
        · obtain rfl := List.mem_singleton.1 he
          unfold pool24 at g1
          rw [if_neg (by simp only at hlt; omega)] at g1
          exact g1
      · rw [List.map_append, List.nodup_append]
        refine ⟨h.n, by simp, fun a ha b hb => ?_⟩
        simp only [List.map_cons, List.map_nil, List.mem_singleton] at hb
        rintro rfl
        exact g2 (hb ▸ ha)
      · rw [List.map_append, List.pairwise_append]
        refine ⟨h.r, by simp, fun a ha b hb => ?_⟩
        simp only [List.map_cons, List.map_nil, List.mem_singleton] at hb
        obtain ⟨e, he, rfl⟩ := List.mem_map.1 ha
        rw [hb]
        exact c2 e he
      · intro e he
        rcases List.mem_append.1 he with he | he
        · exact h.z e he
        · obtain rfl := List.mem_singleton.1 he
          exact c0
    have := bind_acc24 p par hs hp hd cs (acc ++ [(c, g)]) hn h2 fun d hd' => by
      obtain ⟨d0, d1, d2⟩ := hc d (List.mem_cons_of_mem _ hd')
      refine ⟨d0, d1, fun e he => ?_⟩
      rcases List.mem_append.1 he with he | he
      · exact d2 e he
      · obtain rfl := List.mem_singleton.1 he
        exact h1 d hd'
    have hb : bind24 p par safe plain acc (c :: cs) = bind24 p par safe plain (acc ++ [(c, g)]) cs := by rw [← hg]; rfl
    rw [hb]
    refine ⟨this.1, ?_⟩
    rw [this.2, List.map_append, List.append_assoc]
    rfl
end Go.Proofs.Ytbppamjogdjfkaa
set_option linter.unusedSimpArgs false
set_option linter.unusedVariables false
namespace Go.Proofs.Ytbppamjogdjfkaa
theorem varsOk_iff24 : ∀ (vs : List Int) (least : Int), varsOk24 least vs = true → (∀ v ∈ vs, least ≤ v ∧ v ≤ 200) ∧ vs.Pairwise (· < ·)
  | [], _, _ => ⟨by simp, List.Pairwise.nil⟩
  | v :: vs, least, h => by
    unfold varsOk24 at h
    simp only [Bool.and_eq_true, decide_eq_true_eq] at h
    obtain ⟨h1, h2⟩ := varsOk_iff24 vs (v + 1) h.2
    refine ⟨fun x hx => ?_, List.pairwise_cons.2 ⟨fun x hx => by have := (h1 x hx).1; omega, h2⟩⟩
    rcases List.mem_cons.1 hx with rfl | hx
    · exact h.1
    · have := h1 x hx; exact ⟨by omega, this.2⟩
theorem regOf_at24 (acc : List (Int × Int)) : ∀ (vs cs : List Int) (k : Nat) (v c : Int), vs.Pairwise (· < ·) → vs[k]? = some v → cs[k]? = some c → regOf24 vs cs acc v = if c < 0 then -1 else look24 acc c
  | [], _, _, _, _, _, h, _ => by simp at h
  | _ :: _, [], _, _, _, _, _, h => by simp at h
  | x :: vs, y :: cs, 0, v, c, _, hv, hc => by
    simp only [List.getElem?_cons_zero, Option.some.injEq] at hv hc
    subst hv hc
    unfold regOf24
    rw [if_pos rfl]
  | x :: vs, y :: cs, k + 1, v, c, hr, hv, hc => by
    simp only [List.getElem?_cons_succ] at hv hc
    obtain ⟨h1, h2⟩ := List.pairwise_cons.1 hr
    have := h1 v (List.mem_of_getElem? hv)
    unfold regOf24
    rw [if_neg (by omega)]
    exact regOf_at24 acc vs cs k v c h2 hv hc
theorem look_mem24 : ∀ {acc : List (Int × Int)} {e : Int × Int}, (acc.map (·.1)).Pairwise (· < ·) → e ∈ acc → look24 acc e.1 = e.2
  | x :: acc, e, h, he => by
    rw [List.map_cons] at h
    obtain ⟨h1, h2⟩ := List.pairwise_cons.1 h
    unfold look24
    rw [List.lookup_cons]
    rcases List.mem_cons.1 he with rfl | he
    · simp
    · have := h1 e.1 (List.mem_map.2 ⟨e, he, rfl⟩)
      have hne : (e.1 == x.1) = false := by simp; omega
      rw [hne]
      exact look_mem24 h2 he
theorem bind_keeps24 (p : Part) (par : Int → Int) (safe plain : List Int) : ∀ (cs : List Int) (acc : List (Int × Int)) (e : Int × Int), e ∈ acc → e ∈ bind24 p par safe plain acc cs
  | [], _, _, h => h
  | c :: cs, acc, e, h => bind_keeps24 p par safe plain cs _ e (List.mem_append_left _ h)
theorem parts_at24 (safe plain : List Int) (regs : Nat) : ∀ (l : List Part) (done X : List (Part × List (Int × Int))), parts24 safe plain regs done l = X → X.length = done.length + l.length ∧ X.take done.length = done ∧ ∀ i p, l[i]? = some p → X[done.length + i]? = some (p, bind24 p (par24 (X.take (done.length + i)) p) safe plain [] (colors24 p regs))
  | [], done, X, h => by
    obtain rfl : done = X := h
    exact ⟨by simp, by simp, fun i p h => by simp at h⟩
  | p :: l, done, X, h => by
    obtain ⟨h1, h2, h3⟩ := parts_at24 safe plain regs l _ X (show parts24 safe plain regs (done ++ [(p, bind24 p (par24 done p) safe plain [] (colors24 p regs))]) l = X from h)
    rw [List.length_append, List.length_singleton] at h1 h2 h3
    have ht : X.take done.length = done := by
      have := congrArg (List.take done.length) h2
      rw [List.take_take, List.take_left, Nat.min_eq_left (Nat.le_succ _)] at this
      exact this
    refine ⟨by rw [h1, List.length_cons]; omega, ht, fun i q hq => ?_⟩
    cases i with
    | zero =>
      simp only [List.getElem?_cons_zero, Option.some.injEq] at hq
      subst hq
      rw [Nat.add_zero, ht]
      have := congrArg (fun y => y[done.length]?) h2
      simp only [List.getElem?_take, List.getElem?_append] at this
      simpa using this
    | succ i =>
      have := h3 i q (by simpa using hq)
      rw [show done.length + (i + 1) = done.length + 1 + i by omega]
      exact this
/-- The first wish is got, where it is of the pool and not had. -/
theorem got_first24 {w : Int} {wl pool had : List Int} (h1 : w ∈ pool) (h2 : w ∉ had) : got24 (w :: wl) pool had = w := by
  unfold got24
  rw [List.find?_cons_of_pos (by simp only [Bool.and_eq_true, Bool.not_eq_true', Bool.eq_false_iff, ne_eq, hasI_iff]; exact ⟨h1, h2⟩)]
theorem wish_head24 {p : Part} {par : Int → Int} {c g : Int} (hc : c ∈ p.colors) (hl : p.colors.length = p.vars.length) (h : ∀ (k : Nat) (v : Int), p.vars[k]? = some v → p.colors[k]? = some c → par v = g) : ∃ wl, wishes24 p par c = g :: wl := by
  unfold wishes24
  have key : ∀ (vs cs : List Int), c ∈ cs → cs.length = vs.length → (∀ (k : Nat) (v : Int), vs[k]? = some v → cs[k]? = some c → par v = g) → ∃ wl, ((vs.zip cs).filter fun x => decide (x.2 = c)).map (fun x => par x.1) = g :: wl := by
    intro vs
    induction vs with
    | nil => intro cs h1 h2 _; cases cs with
      | nil => simp at h1
      | cons _ _ => simp at h2
    | cons v vs ih =>
      intro cs h1 h2 h3
      cases cs with
      | nil => simp at h1
      | cons d cs =>
        rw [List.zip_cons_cons]
        by_cases hd : d = c
        · subst hd
          rw [List.filter_cons_of_pos (by simp), List.map_cons, h3 0 v rfl rfl]
          exact ⟨_, rfl⟩
        · rw [List.filter_cons_of_neg (by simpa using hd)]
          refine ih cs ?_ (by simpa using h2) fun k w hk hc => h3 (k + 1) w (by simpa using hk) (by simpa using hc)
          rcases List.mem_cons.1 h1 with e | e
          · exact absurd e.symm hd
          · exact e
  obtain ⟨wl, hw⟩ := key p.vars p.colors hc hl h
  rw [hw]
  exact ⟨_, rfl⟩
/-- A part of its parent's variables and colors has its registers. -/
theorem same_bind24 {p q : Part} {par parq : Int → Int} {safe plain : List Int} (hs : safe.Nodup) (hp : plain.Nodup) (hd : ∀ x ∈ safe, x ∉ plain) (R : List (Int × Int)) (hR : (R.map (·.1)).Pairwise (· < ·)) : ∀ (cs : List Int) (acc : List (Int × Int)), Acc24 safe plain acc → cs.Pairwise (· < ·) → (∀ c ∈ cs, 0 ≤ c ∧ c < (safe.length : Int) + plain.length ∧ ∀ e ∈ acc, e.1 < c) → bind24 q parq safe plain acc cs = R →
    (∀ c ∈ cs, ∃ wl, wishes24 p par c = look24 R c :: wl) → bind24 p par safe plain acc cs = R
  | [], acc, _, _, _, h, _ => h
  | c :: cs, acc, ha, hr, hc, h, hw => by
    obtain ⟨h1, h2⟩ := List.pairwise_cons.1 hr
    obtain ⟨c0, c1, c2⟩ := hc c (by simp)
    obtain ⟨g1, g2⟩ := got_in24 (wl := wishes24 q parq c) (room24 ha hs hp hd c0 c1 c2)
    have hb : bind24 q parq safe plain acc (c :: cs) = bind24 q parq safe plain (acc ++ [(c, got24 (wishes24 q parq c) (pool24 safe plain c) (acc.map (·.2)))]) cs := rfl
    generalize hg : got24 (wishes24 q parq c) (pool24 safe plain c) (acc.map (·.2)) = g at g1 g2 hb
    rw [hb] at h
    have hin : (c, g) ∈ R := by rw [← h]; exact bind_keeps24 _ _ _ _ _ _ _ (by simp)
    have hlk : look24 R c = g := look_mem24 (e := (c, g)) hR hin
    obtain ⟨wl, hwl⟩ := hw c (by simp)
    rw [hlk] at hwl
    have hg2 : got24 (wishes24 p par c) (pool24 safe plain c) (acc.map (·.2)) = g := by rw [hwl]; exact got_first24 g1 g2
    have hb2 : bind24 p par safe plain acc (c :: cs) = bind24 p par safe plain (acc ++ [(c, g)]) cs := by rw [← hg2]; rfl
    rw [hb2]
    have hstep := bind_acc24 q parq hs hp hd [c] acc ha (by simp) (fun d hd' => by obtain rfl := List.mem_singleton.1 hd'; exact ⟨c0, c1, c2⟩)
    have hone : bind24 q parq safe plain acc [c] = acc ++ [(c, g)] := by rw [← hg]; rfl
    rw [hone] at hstep
    refine same_bind24 hs hp hd R hR cs _ hstep.1 h2 (fun d hd' => ?_) h fun d hd' => hw d (List.mem_cons_of_mem _ hd')
    obtain ⟨d0, d1, d2⟩ := hc d (List.mem_cons_of_mem _ hd')
    refine ⟨d0, d1, fun e he => ?_⟩
    rcases List.mem_append.1 he with he | he
    · exact d2 e he
    · obtain rfl := List.mem_singleton.1 he
      exact h1 d hd'
end Go.Proofs.Ytbppamjogdjfkaa
