/- law24: plain: scratch registers and pools. law24: plain: what BindScratch asks. Walks: the table of parts. What mir.Right answers, as plain functions: as the program tells it. -/
import Derived.Test.YtbppamjogdjfkaaW7
import Derived.Test.YtbppamjogdjfkaaN7
import Derived.Test.YtbppamjogdjfkaaN2
set_option linter.unusedSimpArgs false
set_option linter.unusedVariables false
namespace Go.Proofs.Ytbppamjogdjfkaa
/-- Two rising lists of the same members are one. -/
theorem rise_eq : ∀ {l m : List Int}, l.Pairwise (· < ·) → m.Pairwise (· < ·) → (∀ x, x ∈ l ↔ x ∈ m) → l = m
  | [], [], _, _, _ => rfl
  | [], y :: m, _, _, h => absurd ((h y).2 (by simp)) (by simp)
  | x :: l, [], _, _, h => absurd ((h x).1 (by simp)) (by simp)
  | x :: l, y :: m, hl, hm, h => by
    obtain ⟨hl1, hl2⟩ := List.pairwise_cons.1 hl
    obtain ⟨hm1, hm2⟩ := List.pairwise_cons.1 hm
    have hxy : x = y := by
      rcases List.mem_cons.1 ((h x).1 (by simp)) with e | h1
      · exact e
      rcases List.mem_cons.1 ((h y).2 (by simp)) with e | h2
      · exact e.symm
      have := hm1 x h1
      have := hl1 y h2
      omega
    subst hxy
    rw [rise_eq hl2 hm2 fun z => ?_]
    constructor
    · intro hz
      rcases List.mem_cons.1 ((h z).1 (List.mem_cons_of_mem _ hz)) with e | h1
      · have := hl1 z hz; omega
      · exact h1
    · intro hz
      rcases List.mem_cons.1 ((h z).2 (List.mem_cons_of_mem _ hz)) with e | h1
      · have := hm1 z hz; omega
      · exact h1
/-- All registers, rising. -/
def regs24 (n : Nat) : List Int := (List.range n).map fun j : Nat => (j : Int)
theorem regs24_rise (n : Nat) : (regs24 n).Pairwise (· < ·) := by
  unfold regs24
  rw [List.pairwise_map]
  exact List.pairwise_lt_range.imp fun h => by omega
theorem mem_regs24 {n : Nat} {x : Int} : x ∈ regs24 n ↔ 0 ≤ x ∧ x < n := by
  unfold regs24
  rw [List.mem_map]
  constructor
  · rintro ⟨j, hj, rfl⟩
    have := List.mem_range.1 hj
    omega
  · rintro ⟨h1, h2⟩
    exact ⟨x.toNat, List.mem_range.2 (by omega), by omega⟩
theorem regs24_nodup (n : Nat) : (regs24 n).Nodup := (regs24_rise n).imp fun h => by omega
/-- Where a register stands in the row. -/
def sort24 (m : Machine) (r : Int) : Nat := if hasI r m.saved = true then 3 else if r = m.ret then 2 else if hasI r m.args = true then 1 else 0
/-- The row, as the program makes it. -/
def row24 (m : Machine) : List Int :=
  ((lostM m).reverse.filter fun r => !decide (r = m.ret) && !hasI r m.args) ++ ((lostM m).reverse.filter fun r => !decide (r = m.ret) && hasI r m.args) ++ [m.ret] ++ m.saved.reverse
/-- The row, as the document tells it. -/
def part24 (m : Machine) (k : Nat) : List Int := (regs24 m.regs.toNat).reverse.filter fun r => decide (sort24 m r = k)
def drow24 (m : Machine) : List Int := part24 m 0 ++ part24 m 1 ++ part24 m 2 ++ part24 m 3
def fits24 (m : Machine) (many : Int) : Bool := rightM m && (decide (0 ≤ many) && decide (many ≤ m.regs))
structure M24 (m : Machine) : Prop where
  r1 : 1 ≤ m.regs
  r64 : m.regs ≤ 64
  ret0 : 0 ≤ m.ret
  ret : m.ret < m.regs
  rs : hasI m.ret m.saved = false
  al : m.args.length ≤ 8
  a : ∀ x ∈ m.args, 0 ≤ x ∧ x < m.regs
  an : m.args.Nodup
  s : ∀ x ∈ m.saved, 0 ≤ x ∧ x < m.regs
  sr : m.saved.Pairwise (· < ·)
theorem right24 {m : Machine} (h : rightM m = true) : M24 m := by
  simp only [rightM, Bool.and_eq_true, decide_eq_true_eq, Bool.not_eq_true'] at h
  obtain ⟨⟨⟨⟨⟨⟨⟨⟨a1, a2⟩, a3⟩, a4⟩, a5⟩, a6⟩, a7⟩, a8⟩, a9⟩ := h
  have b1 := (argsOk_iff _ _ _).1 a8
  have b2 := (savedOk_iff _ _ _).1 a9
  exact ⟨a1, a2, a5, a6, a7, a3, fun x hx => ⟨(b1.1 x hx).1, (b1.1 x hx).2.1⟩, b1.2, b2.1, b2.2.2⟩
theorem lost24 {m : Machine} (h : rightM m = true) : lostM m = (regs24 m.regs.toNat).filter fun r => !hasI r m.saved := by
  unfold lostM regs24 lostTo
  rw [if_pos h, List.filter_map]
  rfl
/-- The saved ones are what is saved of all. -/
theorem saved24 {m : Machine} (h : M24 m) : m.saved = (regs24 m.regs.toNat).filter fun r => hasI r m.saved := by
  refine rise_eq h.sr ((regs24_rise _).filter _) fun x => ?_
  rw [List.mem_filter, mem_regs24, hasI_iff]
  constructor
  · intro hx
    have := h.s x hx
    exact ⟨by omega, hx⟩
  · exact fun hx => hx.2
theorem row_eq24 {m : Machine} (h : rightM m = true) : row24 m = drow24 m := by
  have hm := right24 h
  unfold row24 drow24
  have e0 : ((lostM m).reverse.filter fun r => !decide (r = m.ret) && !hasI r m.args) = part24 m 0 := by
    rw [lost24 h, ← List.filter_reverse, List.filter_filter]
    unfold part24
    refine List.filter_congr fun x _ => ?_
    unfold sort24
    rw [Bool.eq_iff_iff]
    by_cases h1 : hasI x m.saved = true <;> by_cases h2 : x = m.ret <;> by_cases h3 : hasI x m.args = true <;> first | (simp [h1, h2, h3]; done) | (simp [h1, h2, h3]; split <;> simp; done) | (simp [h1, h3] <;> simp_all)
  have e1 : ((lostM m).reverse.filter fun r => !decide (r = m.ret) && hasI r m.args) = part24 m 1 := by
    rw [lost24 h, ← List.filter_reverse, List.filter_filter]
    unfold part24
    refine List.filter_congr fun x _ => ?_
    unfold sort24
    rw [Bool.eq_iff_iff]
    by_cases h1 : hasI x m.saved = true <;> by_cases h2 : x = m.ret <;> by_cases h3 : hasI x m.args = true <;> first | (simp [h1, h2, h3]; done) | (simp [h1, h2, h3]; split <;> simp; done) | (simp [h1, h3] <;> simp_all)
  have e3 : m.saved.reverse = part24 m 3 := by
    have := saved24 hm
    unfold part24
    rw [List.filter_reverse]
    congr 1
    refine Eq.trans this (List.filter_congr fun x _ => ?_)
    unfold sort24
    rw [Bool.eq_iff_iff]
    by_cases h1 : hasI x m.saved = true <;> by_cases h2 : x = m.ret <;> by_cases h3 : hasI x m.args = true <;> first | (simp [h1, h2, h3]; done) | (simp [h1, h2, h3]; split <;> simp; done) | (simp [h1, h3] <;> simp_all)
  have e2 : [m.ret] = part24 m 2 := by
    unfold part24
    rw [List.filter_reverse]
    have : [m.ret] = (regs24 m.regs.toNat).filter fun r => decide (sort24 m r = 2) := by
      refine rise_eq (by simp) ((regs24_rise _).filter _) fun x => ?_
      rw [List.mem_filter, mem_regs24, List.mem_singleton]
      unfold sort24
      constructor
      · rintro rfl
        have := hm.ret0; have := hm.ret
        exact ⟨by omega, by rw [hm.rs]; simp⟩
      · rintro ⟨_, h2⟩
        by_cases h1 : hasI x m.saved = true <;> by_cases h2' : x = m.ret <;> by_cases h3 : hasI x m.args = true <;> simp_all
    rw [← this]
    rfl
  rw [e0, e1, e2, e3]
/-- The scratch registers. -/
def scratch24 (m : Machine) (many : Int) : List Int := if fits24 m many = true then (row24 m).take many.toNat else []
/-- What is left, rising. -/
def left24 (m : Machine) (many : Int) : List Int := (regs24 m.regs.toNat).filter fun r => !hasI r ((row24 m).take many.toNat)
def safe24 (m : Machine) (many : Int) : List Int := if fits24 m many = true then (left24 m many).filter fun r => hasI r m.saved && !hasI r m.args else []
def plain24 (m : Machine) (many : Int) : List Int := if fits24 m many = true then ((left24 m many).filter fun r => !hasI r m.saved) ++ ((left24 m many).filter fun r => hasI r m.saved && hasI r m.args) else []
/-- Each register is in the row once. -/
theorem drow_nodup24 (m : Machine) : (drow24 m).Nodup := by
  unfold drow24
  have hp : ∀ k, (part24 m k).Nodup := fun k => List.Pairwise.filter _ (List.pairwise_reverse.2 ((regs24_nodup _).imp fun h => Ne.symm h))
  have hd : ∀ k j, k ≠ j → ∀ a ∈ part24 m k, ∀ b ∈ part24 m j, a ≠ b := by
    intro k j hkj a ha b hb e
    subst e
    have h1 := (List.mem_filter.1 ha).2
    have h2 := (List.mem_filter.1 hb).2
    simp only [decide_eq_true_eq] at h1 h2
    omega
  rw [List.nodup_append]
  refine ⟨?_, hp 3, ?_⟩
  · rw [List.nodup_append]
    refine ⟨?_, hp 2, ?_⟩
    · rw [List.nodup_append]
      exact ⟨hp 0, hp 1, hd 0 1 (by decide)⟩
    · intro a ha b hb
      rcases List.mem_append.1 ha with h | h
      · exact hd 0 2 (by decide) a h b hb
      · exact hd 1 2 (by decide) a h b hb
  · intro a ha b hb
    rcases List.mem_append.1 ha with h | h
    · rcases List.mem_append.1 h with h | h
      · exact hd 0 3 (by decide) a h b hb
      · exact hd 1 3 (by decide) a h b hb
    · exact hd 2 3 (by decide) a h b hb
theorem mem_drow24 {m : Machine} {x : Int} : x ∈ drow24 m ↔ 0 ≤ x ∧ x < m.regs.toNat := by
  have hs : sort24 m x = 0 ∨ sort24 m x = 1 ∨ sort24 m x = 2 ∨ sort24 m x = 3 := by
    unfold sort24
    by_cases h1 : hasI x m.saved = true
    · simp [h1]
    · by_cases h2 : x = m.ret
      · rw [if_neg h1, if_pos h2]; simp
      · by_cases h3 : hasI x m.args = true <;> simp [h1, h2, h3]
  unfold drow24 part24
  simp only [List.mem_append, List.mem_filter, List.mem_reverse, mem_regs24, decide_eq_true_eq]
  constructor
  · rintro (((h | h) | h) | h) <;> exact h.1
  · intro h
    rcases hs with e | e | e | e <;> simp [e] <;> omega
/-- What is left of the row, in order, is what is left of all, rising. -/
theorem left_eq24 {m : Machine} (h : rightM m = true) (many : Int) {l : List Int} (hl : l.Pairwise (· < ·)) (hp : ∀ x, x ∈ l ↔ x ∈ (row24 m).drop many.toNat) : l = left24 m many := by
  refine rise_eq hl ((regs24_rise _).filter _) fun x => ?_
  unfold left24
  rw [hp, List.mem_filter, mem_regs24, row_eq24 h]
  have hn := drow_nodup24 m
  rw [← List.take_append_drop many.toNat (drow24 m), List.nodup_append] at hn
  have hx : x ∈ drow24 m ↔ x ∈ (drow24 m).take many.toNat ∨ x ∈ (drow24 m).drop many.toNat := by rw [← List.mem_append, List.take_append_drop]
  rw [← mem_drow24 (m := m), hx]
  simp only [Bool.not_eq_true', Bool.eq_false_iff, ne_eq, hasI_iff]
  constructor
  · exact fun h1 => ⟨.inr h1, fun h2 => hn.2.2 x h2 x h1 rfl⟩
  · rintro ⟨h1 | h1, h2⟩
    · exact absurd h1 h2
    · exact h1
end Go.Proofs.Ytbppamjogdjfkaa
set_option linter.unusedSimpArgs false
set_option linter.unusedVariables false
namespace Go.Proofs.Ytbppamjogdjfkaa
theorem nodup_len : ∀ (l m : List Int), l.Nodup → (∀ x ∈ l, x ∈ m) → l.length ≤ m.length
  | [], _, _, _ => Nat.zero_le _
  | x :: l, m, h, hs => by
    obtain ⟨h1, h2⟩ := List.nodup_cons.1 h
    have hx := hs x (by simp)
    have h3 := nodup_len l (m.erase x) h2 fun y hy => by
      have hne : y ≠ x := fun e => h1 (e ▸ hy)
      exact (List.mem_erase_of_ne hne).2 (hs y (List.mem_cons_of_mem _ hy))
    rw [List.length_erase_of_mem hx] at h3
    have := List.length_pos_of_mem hx
    simp only [List.length_cons]
    omega
theorem regs24_len (n : Nat) : (regs24 n).length = n := by unfold regs24; simp
theorem drow_len24 (m : Machine) : (drow24 m).length = m.regs.toNat := by
  have h1 := nodup_len (drow24 m) (regs24 m.regs.toNat) (drow_nodup24 m) fun x hx => mem_regs24.2 (mem_drow24.1 hx)
  have h2 := nodup_len (regs24 m.regs.toNat) (drow24 m) (regs24_nodup _) fun x hx => mem_drow24.2 (mem_regs24.1 hx)
  rw [regs24_len] at h1 h2
  omega
theorem row_len24 {m : Machine} (h : rightM m = true) : (row24 m).length = m.regs.toNat := by rw [row_eq24 h]; exact drow_len24 m
theorem scratch_len24 {m : Machine} {many : Int} (h : fits24 m many = true) : (scratch24 m many).length = many.toNat := by
  unfold scratch24
  rw [if_pos h, List.length_take]
  unfold fits24 at h
  simp only [Bool.and_eq_true, decide_eq_true_eq] at h
  rw [row_len24 h.1]
  omega
theorem scratch_next24 {m : Machine} {many : Int} (h : fits24 m many = true) (h' : fits24 m (many + 1) = true) : (scratch24 m (many + 1)).take many.toNat = scratch24 m many := by
  unfold scratch24
  rw [if_pos h, if_pos h', List.take_take]
  congr 1
  unfold fits24 at h
  simp only [Bool.and_eq_true, decide_eq_true_eq] at h
  omega
/-- In a pool, or scratch, and in one alone. -/
theorem one24 {m : Machine} {many : Int} (h : fits24 m many = true) {r : Int} (h0 : 0 ≤ r) (h1 : r < m.regs) :
    (hasI r (scratch24 m many) = true ∧ hasI r (safe24 m many) = false ∧ hasI r (plain24 m many) = false) ∨
    (hasI r (scratch24 m many) = false ∧ hasI r (safe24 m many) = true ∧ hasI r (plain24 m many) = false) ∨
    (hasI r (scratch24 m many) = false ∧ hasI r (safe24 m many) = false ∧ hasI r (plain24 m many) = true) := by
  have hr : r ∈ regs24 m.regs.toNat := mem_regs24.2 (by omega)
  simp only [Bool.eq_false_iff, ne_eq, hasI_iff]
  unfold scratch24 safe24 plain24 left24
  simp only [if_pos h, List.mem_append, List.mem_filter, Bool.and_eq_true, Bool.not_eq_true', Bool.eq_false_iff, ne_eq, hasI_iff]
  by_cases a : r ∈ (row24 m).take many.toNat <;> by_cases b : r ∈ m.saved <;> by_cases c : r ∈ m.args <;> simp [a, b, c, hr]
/-- A saved register is a scratch one only if all lost ones are. -/
theorem late24 {m : Machine} {many : Int} (h : fits24 m many = true) {r : Int} (hr : hasI r (scratch24 m many) = true) (hs : hasI r m.saved = true) : m.regs - m.saved.length + 1 ≤ many := by
  have hf := h
  unfold fits24 at hf
  simp only [Bool.and_eq_true, decide_eq_true_eq] at hf
  have hm := right24 hf.1
  rw [hasI_iff] at hr hs
  unfold scratch24 at hr
  rw [if_pos h, row_eq24 hf.1] at hr
  have hl := drow_len24 m
  have e3 : part24 m 3 = m.saved.reverse := by
    have := saved24 hm
    unfold part24
    rw [List.filter_reverse]
    congr 1
    refine Eq.trans (List.filter_congr fun x _ => ?_) this.symm
    unfold sort24
    rw [Bool.eq_iff_iff]
    by_cases h1 : hasI x m.saved = true
    · simp [h1]
    · simp only [h1]
      by_cases h2 : x = m.ret
      · simp [h2]
      · by_cases h3 : hasI x m.args = true <;> simp [h2, h3]
  have hno : ∀ k, k ≠ 3 → r ∉ part24 m k := fun k hk hmem => by
    have h2 := (List.mem_filter.1 hmem).2
    simp only [decide_eq_true_eq] at h2
    unfold sort24 at h2
    rw [if_pos ((hasI_iff _ _).2 hs)] at h2
    exact hk h2.symm
  unfold drow24 at hr hl
  rw [List.length_append, e3, List.length_reverse] at hl
  rw [List.take_append, List.mem_append] at hr
  rcases hr with hr | hr
  · have := List.mem_of_mem_take hr
    rcases List.mem_append.1 this with h1 | h1
    · rcases List.mem_append.1 h1 with h1 | h1
      · exact absurd h1 (hno 0 (by decide))
      · exact absurd h1 (hno 1 (by decide))
    · exact absurd h1 (hno 2 (by decide))
  · have hpos := List.length_pos_of_mem hr
    rw [List.length_take] at hpos
    omega
/-- Safe ones rise. -/
theorem safe_rise24 (m : Machine) (many : Int) : (safe24 m many).Pairwise (· < ·) := by
  unfold safe24
  split
  · exact ((regs24_rise _).filter _).filter _
  · exact List.Pairwise.nil
/-- Plain ones: those that are lost first, each sort rising. -/
theorem plain_rise24 (m : Machine) (many : Int) : (plain24 m many).Pairwise fun a b => ¬ (hasI a m.saved = true ∧ hasI b m.saved = false) ∧ (hasI a m.saved = hasI b m.saved → a < b) := by
  unfold plain24
  split
  · rw [List.pairwise_append]
    refine ⟨?_, ?_, ?_⟩
    · refine List.Pairwise.imp_of_mem (fun {a b} ha hb hab => ?_) (((regs24_rise m.regs.toNat).filter _).filter _)
      have h1 := (List.mem_filter.1 ha).2
      simp only [Bool.not_eq_true'] at h1
      exact ⟨fun h => by rw [h1] at h; exact absurd h.1 (by decide), fun _ => hab⟩
    · refine List.Pairwise.imp_of_mem (fun {a b} ha hb hab => ?_) (((regs24_rise m.regs.toNat).filter _).filter _)
      have h1 := (List.mem_filter.1 hb).2
      simp only [Bool.and_eq_true] at h1
      exact ⟨fun h => by rw [h1.1] at h; exact absurd h.2 (by decide), fun _ => hab⟩
    · intro a ha b hb
      have h1 := (List.mem_filter.1 ha).2
      have h2 := (List.mem_filter.1 hb).2
      simp only [Bool.not_eq_true', Bool.and_eq_true] at h1 h2
      rw [h1, h2.1]
      exact ⟨fun h => by simp at h, fun h => by simp at h⟩
  · exact List.Pairwise.nil
end Go.Proofs.Ytbppamjogdjfkaa
set_option linter.unusedSimpArgs false
set_option linter.unusedVariables false
namespace Go.Proofs.Ytbppamjogdjfkaa
open Go.RowKit

def tabAt (k i : Nat) : Int := if 2 ≤ i ∧ i < k then 7 else if i = 1 then 9 else if i = 11 then 11 else if i = 12 then 14 else if i = 13 then 32 else if i = 15 then 3 else if i = 16 then 18 else if i = 17 then 17 else 0
theorem tab_hasP (i : Nat) (h : i < 18) : tabAt 11 i = hasP i := by
  have : i = 0 ∨ i = 1 ∨ i = 2 ∨ i = 3 ∨ i = 4 ∨ i = 5 ∨ i = 6 ∨ i = 7 ∨ i = 8 ∨ i = 9 ∨ i = 10 ∨ i = 11 ∨ i = 12 ∨ i = 13 ∨ i = 14 ∨ i = 15 ∨ i = 16 ∨ i = 17 := by omega
  rcases this with h | h | h | h | h | h | h | h | h | h | h | h | h | h | h | h | h | h <;> subst h <;> decide
theorem hasP_out (o : Int) (h : o < 0 ∨ 18 ≤ o) : hasP o = 0 := by
  unfold hasP
  rw [if_neg (by omega), if_neg (by omega), if_neg (by omega), if_neg (by omega), if_neg (by omega), if_neg (by omega), if_neg (by omega), if_neg (by omega)]
end Go.Proofs.Ytbppamjogdjfkaa
set_option linter.unusedSimpArgs false
set_option linter.unusedVariables false
namespace Go.Proofs.Ytbppamjogdjfkaa
open Go.RowKit

/-- is one of some parts there? -/
def bt (p x : Int) : Bool := bits .and .u8 p x != 0
/-- is something that is not there not 0? -/
def oddB (b : Bool) (n : Int) : Bool := !b && n != 0
def regBad (m : Machine) (r : Int) : Bool := decide (r < 0) || decide (r ≥ m.regs)
def toBad (blocks : Int) (r : Int) : Bool := decide (r < 0) || decide (r ≥ blocks)
/-- the first error of an instruction, from the last case on -/
def insP9 (m : Machine) (frame : Int) (i : Ins) : Int :=
  if IntKind.u64.wrap i.callee > 99 then 2 else if IntKind.u64.wrap i.many > IntKind.u64.wrap m.args.length then 2
  else if anyF (regBad m) [i.dst, i.a, i.b] = true then 10
  else if (bt (hasP i.op) 16 && decide (IntKind.u64.wrap i.imm ≥ IntKind.u64.wrap frame)) = true then 11 else 0
def insP8 (m : Machine) (frame : Int) (i : Ins) : Int :=
  if (bt (hasP i.op) 8 && (decide (i.imm < -1099511627776) || decide (i.imm > 1099511627776))) = true then 2 else insP9 m frame i
def insP7 (m : Machine) (frame : Int) (i : Ins) : Int := if oddB (bt (hasP i.op) 32) i.many = true then 2 else insP8 m frame i
def insP6 (m : Machine) (frame : Int) (i : Ins) : Int := if oddB (bt (hasP i.op) 32) i.callee = true then 2 else insP7 m frame i
def insP5 (m : Machine) (frame : Int) (i : Ins) : Int := if oddB (bt (hasP i.op) 24) i.imm = true then 2 else insP6 m frame i
def insP4 (m : Machine) (frame : Int) (i : Ins) : Int := if oddB (bt (hasP i.op) 4) i.b = true then 2 else insP5 m frame i
def insP3 (m : Machine) (frame : Int) (i : Ins) : Int := if oddB (bt (hasP i.op) 2) i.a = true then 2 else insP4 m frame i
def insP2 (m : Machine) (frame : Int) (i : Ins) : Int := if oddB (bt (hasP i.op) 1) i.dst = true then 2 else insP3 m frame i
def insP (m : Machine) (frame : Int) (i : Ins) : Int := if (hasP i.op == 0) = true then 2 else if (0 : Int) < i.args.length then 2 else insP2 m frame i
/-- the first error of an end -/
def termP (m : Machine) (blocks : Int) (t : Term) : Int :=
  if t.kind = 1 then (if t.a ≠ 0 ∨ t.to1 ≠ 0 then 2 else if toBad blocks t.to0 then 9 else 0)
  else if t.kind = 2 then (if regBad m t.a then 10 else if toBad blocks t.to0 || toBad blocks t.to1 then 9 else 0)
  else if t.kind = 3 then (if t.to0 ≠ 0 ∨ t.to1 ≠ 0 then 2 else if t.a ≠ -1 ∧ t.a ≠ m.ret then 10 else 0)
  else if t.kind = 4 then (if t.a ≠ 0 ∨ t.to0 ≠ 0 ∨ t.to1 ≠ 0 then 2 else 0)
  else 2
/-- the first error of some -/
def inssP (m : Machine) (frame : Int) : List Ins → Int
  | [] => 0
  | i :: l => if insP m frame i = 0 then inssP m frame l else insP m frame i
def blocksP (m : Machine) (frame n : Int) : List Block → Int
  | [] => 0
  | b :: l => if inssP m frame b.ins = 0 then (if termP m n b.term = 0 then blocksP m frame n l else termP m n b.term) else inssP m frame b.ins
def rightT (m : Machine) (t : Target) : Int :=
  if rightM m = false then 2
  else if t.blocks.length = 0 then 3 else if 200 < t.blocks.length then 3 else if IntKind.u64.wrap t.frame > 400 then 3 else if anyF (fun b : Block => decide ((b.ins.length : Int) > 4000)) t.blocks = true then 3
  else blocksP m t.frame t.blocks.length t.blocks
end Go.Proofs.Ytbppamjogdjfkaa
