/- The plain law: the program's way and the document's of saying when a target is right. What is right reads and writes places of its machine, of its frame. -/
import Derived.Test.YtkjipgelbjaggaaM37
set_option linter.unusedSimpArgs false
set_option linter.unusedVariables false
namespace Go.Proofs.Ytkjipgelbjaggaa
open Go.RowKit
theorem u64_gt {x : Int} (h : InI x) (c : Int) (hc : 0 ≤ c ∧ c ≤ 9223372036854775807) : (IntKind.u64.wrap x > c) ↔ (x < 0 ∨ c < x) := by
  obtain ⟨h1, h2⟩ := h
  rw [IntKind.wrap_u64]; omega
theorem u64_ge {x : Int} (h : InI x) (c : Int) (hc : 0 ≤ c ∧ c ≤ 9223372036854775807) : (IntKind.u64.wrap x ≥ c) ↔ (x < 0 ∨ c ≤ x) := by
  obtain ⟨h1, h2⟩ := h
  rw [IntKind.wrap_u64]; omega
/-- bits and letters -/
structure Parts (o : Int) (z d a b i s c : Bool) : Prop where
  pz : (hasP o == 0) = z
  pze : decide ((hasL o).toList = []) = z
  pd : bt (hasP o) 1 = d
  pa : bt (hasP o) 2 = a
  pb : bt (hasP o) 4 = b
  pi : bt (hasP o) 8 = i
  ps : bt (hasP o) 16 = s
  pis : bt (hasP o) 24 = (i || s)
  pc : bt (hasP o) 32 = c
  pld : lt o 100 = d
  pla : lt o 97 = a
  plb : lt o 98 = b
  pli : lt o 105 = i
  pls : lt o 115 = s
  plc : decide ((hasL o).toList = [99]) = c
theorem parts_of (o : Int) : ∃ z d a b i s c, Parts o z d a b i s c ∧ (i && s) = false := by
  by_cases h1 : o = 1
  · subst h1; exact ⟨false, true, false, false, true, false, false, by constructor <;> (first | decide | (rw [ByteArray.toList_eq]; decide)), rfl⟩
  by_cases h2 : 2 ≤ o ∧ o ≤ 10
  · have hp : hasP o = 7 := by simp [hasP, h1, h2]
    have hl : hasL o = ⟨#[100, 97, 98]⟩ := by simp [hasL, h1, h2]
    exact ⟨false, true, true, true, false, false, false, by constructor <;> (first | (simp only [lt, hp, hl]; decide) | (rw [ByteArray.toList_eq]; simp only [hl]; decide)), rfl⟩
  by_cases h3 : o = 11
  · subst h3; exact ⟨false, true, true, false, true, false, false, by constructor <;> (first | decide | (rw [ByteArray.toList_eq]; decide)), rfl⟩
  by_cases h4 : o = 12
  · subst h4; exact ⟨false, false, true, true, true, false, false, by constructor <;> (first | decide | (rw [ByteArray.toList_eq]; decide)), rfl⟩
  by_cases h5 : o = 13
  · subst h5; exact ⟨false, false, false, false, false, false, true, by constructor <;> (first | decide | (rw [ByteArray.toList_eq]; decide)), rfl⟩
  by_cases h6 : o = 15
  · subst h6; exact ⟨false, true, true, false, false, false, false, by constructor <;> (first | decide | (rw [ByteArray.toList_eq]; decide)), rfl⟩
  by_cases h7 : o = 16
  · subst h7; exact ⟨false, false, true, false, false, true, false, by constructor <;> (first | decide | (rw [ByteArray.toList_eq]; decide)), rfl⟩
  by_cases h8 : o = 17
  · subst h8; exact ⟨false, true, false, false, false, true, false, by constructor <;> (first | decide | (rw [ByteArray.toList_eq]; decide)), rfl⟩
  have hp : hasP o = 0 := by simp [hasP, h1, h2, h3, h4, h5, h6, h7, h8]
  have hl : hasL o = ⟨#[]⟩ := by simp [hasL, h1, h2, h3, h4, h5, h6, h7, h8]
  exact ⟨true, false, false, false, false, false, false, by constructor <;> (first | (simp only [lt, hp, hl]; decide) | (rw [ByteArray.toList_eq]; simp only [hl]; decide)), rfl⟩
theorem ite_or {p q : Prop} [Decidable p] [Decidable q] {a b : Int} : (if p then a else if q then a else b) = if p ∨ q then a else b := by
  by_cases hp : p
  · simp [hp]
  · by_cases hq : q <;> simp [hp, hq]
/-- The two ways say the same. -/
theorem insP_eq {m : Machine} {frame : Int} {i : Ins} (h1 : InI i.imm) (h2 : InI i.callee) (h3 : InI i.many) (hf : 0 ≤ frame ∧ frame ≤ 400) (hm : m.args.length ≤ 9223372036854775807) : insP m frame i = insR m frame i := by
  obtain ⟨z, d, a, b, im, s, c, P, hx⟩ := parts_of i.op
  have hlen : IntKind.u64.wrap (m.args.length : Int) = m.args.length := IntWalk.u64_in _ (by omega)
  have hfr : IntKind.u64.wrap frame = frame := IntWalk.u64_in _ (by omega)
  have hreg : anyF (regBad m) [i.dst, i.a, i.b] = regR m i := by simp [anyF, regR, inB_reg, Bool.or_assoc]
  have hslot : (bt (hasP i.op) 16 && decide (IntKind.u64.wrap i.imm ≥ IntKind.u64.wrap frame)) = slotR frame i := by
    unfold slotR
    rw [P.ps, P.pls, hfr, show decide (IntKind.u64.wrap i.imm ≥ frame) = decide (i.imm < 0 ∨ frame ≤ i.imm) from decide_eq_decide.2 (u64_ge h1 frame (by omega))]
    congr 1
    unfold inB
    by_cases g1 : i.imm < 0
    · have : ¬ 0 ≤ i.imm := by omega
      simp [g1, this]
    · have g1' : 0 ≤ i.imm := by omega
      by_cases g2 : frame ≤ i.imm
      · have : ¬ i.imm ≤ frame - 1 := by omega
        simp [g2, this]
      · have : i.imm ≤ frame - 1 := by omega
        simp [g1, g2, g1', this]
  have hbad : (badR m i = true) ↔ ((hasP i.op == 0) = true ∨ (0 : Int) < i.args.length ∨ oddB (bt (hasP i.op) 1) i.dst = true ∨ oddB (bt (hasP i.op) 2) i.a = true ∨ oddB (bt (hasP i.op) 4) i.b = true ∨ oddB (bt (hasP i.op) 24) i.imm = true ∨
      oddB (bt (hasP i.op) 32) i.callee = true ∨ oddB (bt (hasP i.op) 32) i.many = true ∨ (bt (hasP i.op) 8 && (decide (i.imm < -1099511627776) || decide (i.imm > 1099511627776))) = true ∨ IntKind.u64.wrap i.callee > 99 ∨ IntKind.u64.wrap i.many > IntKind.u64.wrap m.args.length) := by
    rw [hlen, u64_gt h2 99 (by omega), u64_gt h3 _ (by omega)]
    unfold badR immR callR oddB inB
    rw [P.pz, P.pze, P.pd, P.pa, P.pb, P.pis, P.pi, P.pc, P.pld, P.pla, P.plb, P.pli, P.pls, P.plc]
    cases z <;> cases d <;> cases a <;> cases b <;> cases im <;> cases s <;> cases c <;> simp at hx ⊢ <;> omega
  unfold insP insP2 insP3 insP4 insP5 insP6 insP7 insP8 insP9 insR
  rw [hreg, hslot]
  simp only [ite_or]
  by_cases hb : badR m i = true
  · rw [if_pos hb, if_pos]
    have := hbad.1 hb
    first | exact this | (simp only [or_assoc]; exact this)
  · rw [if_neg hb, if_neg]
    intro h
    exact hb (hbad.2 (by first | exact h | simpa only [or_assoc] using h))
/-- What Go's ints ask of an instruction. -/
def GoodI (i : Ins) : Prop := InI i.imm ∧ InI i.callee ∧ InI i.many
theorem inss_eq {m : Machine} {frame : Int} (hf : 0 ≤ frame ∧ frame ≤ 400) (hm : m.args.length ≤ 9223372036854775807) : ∀ l : List Ins, (∀ i ∈ l, GoodI i) → inssP m frame l = inssR m frame l
  | [], _ => rfl
  | i :: l, h => by
    have e := inss_eq hf hm l fun j hj => h j (List.mem_cons_of_mem _ hj)
    obtain ⟨a, b, c⟩ := h i List.mem_cons_self
    simp only [inssP, inssR, insP_eq a b c hf hm, e]
theorem blocks_eq {m : Machine} {frame n : Int} (hf : 0 ≤ frame ∧ frame ≤ 400) (hm : m.args.length ≤ 9223372036854775807) : ∀ l : List Block, (∀ b ∈ l, ∀ i ∈ b.ins, GoodI i) → blocksP m frame n l = blocksR m frame n l
  | [], _ => rfl
  | b :: l, h => by
    have e := blocks_eq (n := n) hf hm l fun j hj => h j (List.mem_cons_of_mem _ hj)
    simp only [blocksP, blocksR, inss_eq hf hm b.ins (h b List.mem_cons_self), e]
/-- **Chapter 6's law.** -/
theorem right_eq {m : Machine} {t : Target} (hfr : InI t.frame) (hm : m.args.length ≤ 9223372036854775807) (h : ∀ b ∈ t.blocks, ∀ i ∈ b.ins, GoodI i) : rightT m t = rightR m t := by
  unfold rightT rightR
  by_cases hr : rightM m = false
  · rw [if_pos hr, if_pos hr]
  rw [if_neg hr, if_neg hr]
  by_cases h0 : t.blocks.length = 0
  · rw [if_pos h0, if_pos (by simp [longR, h0])]
  rw [if_neg h0]
  by_cases h2 : 200 < t.blocks.length
  · rw [if_pos h2, if_pos (by have : (t.blocks.length : Int) > 200 := by omega
                              simp [longR, this])]
  rw [if_neg h2]
  by_cases h4 : IntKind.u64.wrap t.frame > 400
  · rw [if_pos h4, if_pos]
    have := (u64_gt hfr 400 (by omega)).1 h4
    have hi : inB t.frame 0 400 = false := by
      unfold inB
      rcases this with g | g
      · have : ¬ 0 ≤ t.frame := by omega
        simp [this]
      · have : ¬ t.frame ≤ 400 := by omega
        simp [this]
    simp [longR, hi]
  rw [if_neg h4]
  have hf : 0 ≤ t.frame ∧ t.frame ≤ 400 := by
    have : ¬ (t.frame < 0 ∨ 400 < t.frame) := fun g => h4 ((u64_gt hfr 400 (by omega)).2 g)
    omega
  have hl : longR t.blocks.length t.frame = false := by
    have a1 : ¬ t.blocks.length < 1 := by omega
    have a2 : ¬ (t.blocks.length : Int) > 200 := by omega
    have a3 : inB t.frame 0 400 = true := by unfold inB; simp [hf]
    unfold longR
    rw [a3, decide_eq_false a1, decide_eq_false a2]; rfl
  rw [hl, Bool.false_or, show (fun b : Block => decide ((b.ins.length : Int) > 4000)) = longB from rfl, blocks_eq hf hm t.blocks h]
/-- A list of blocks in memory is such. -/
theorem good_of {w : World} {S : Nat → Prop} {A : Option Addr} {n c : Nat} {l : List Block} (h : Sl w S A n c l) : ∀ b ∈ l, ∀ i ∈ b.ins, GoodI i := by
  intro b hb i hi
  obtain ⟨k, hk⟩ := List.mem_iff_getElem?.1 hb
  have hkn : k < n := by rw [← h.len]; exact (List.getElem?_eq_some_iff.1 hk).1
  obtain ⟨_, _, x, _, _, _, _, _, hx, hins, -⟩ := at_Block h hkn
  rw [hk] at hx; cases hx
  obtain ⟨j, hj⟩ := List.mem_iff_getElem?.1 hi
  have hjn := by have := (List.getElem?_eq_some_iff.1 hj).1; rw [hins.len] at this; exact this
  obtain ⟨_, _, y, _, _, _, _, _, hy, -, -, -, -, a1, a2, -, a3, -⟩ := at_Ins hins hjn
  rw [hj] at hy; cases hy
  exact ⟨a1, a2, a3⟩
end Go.Proofs.Ytkjipgelbjaggaa
set_option linter.unusedSimpArgs false
set_option linter.unusedVariables false
namespace Go.Proofs.Ytkjipgelbjaggaa
open Go.RowKit
theorem argsOk_in {regs x : Int} : ∀ {pre l : List Int}, argsOk regs pre l = true → x ∈ l → 0 ≤ x ∧ x < regs
  | pre, y :: l, h, hx => by
    simp only [argsOk, Bool.and_eq_true, decide_eq_true_eq] at h
    rcases List.mem_cons.1 hx with rfl | hx
    · exact ⟨h.1.1.1, h.1.1.2⟩
    · exact argsOk_in h.2 hx
theorem allB_of {m : Machine} {frame : Int} : ∀ {xs : List Loc}, (∀ x ∈ xs, placeB m frame x = true) → allB m frame xs = true
  | [], _ => rfl
  | y :: l, h => by simp only [allB, h y (by simp), allB_of (fun x hx => h x (List.mem_cons_of_mem _ hx)), Bool.and_self]
theorem place_reg {m : Machine} {frame r : Int} (h : 0 ≤ r ∧ r < m.regs) : placeB m frame ⟨false, r⟩ = true := by
  simp [placeB, h.1, h.2]
theorem place_slot {m : Machine} {frame r : Int} (h : 0 ≤ r ∧ r < frame) : placeB m frame ⟨true, r⟩ = true := by
  simp [placeB, h.1, h.2]
structure InsGood (m : Machine) (frame : Int) (i : Ins) : Prop where
  reads : allB m frame (readsP m i) = true
  writes : allB m frame (writesP m i) = true
  one : (writesP m i).length ≤ 1
  ins : insertedB i.op = true → (readsP m i).length = 1 ∧ (writesP m i).length = 1
  op : (i.op == 14) = false
structure TermGood (m : Machine) (frame n : Int) (t : Term) : Prop where
  needs : allB m frame (needsP t) = true
  one : (needsP t).length ≤ 1
  ret : t.kind = 3 → t.a ≠ -1 → t.a = m.ret
  to0 : 0 ≤ t.to0 ∧ t.to0 < n
  to1 : 0 ≤ t.to1 ∧ t.to1 < n
structure MachGood (m : Machine) : Prop where
  ret : 0 ≤ m.ret ∧ m.ret < m.regs
  args : ∀ x ∈ m.args, 0 ≤ x ∧ x < m.regs
theorem mach_good {m : Machine} (h : rightM m = true) : MachGood m := by
  simp only [rightM, Bool.and_eq_true, decide_eq_true_eq] at h
  exact ⟨⟨h.1.1.1.1.2, h.1.1.1.2⟩, fun x hx => argsOk_in h.1.2 hx⟩
theorem ins_good {m : Machine} {frame : Int} {i : Ins} (hm : MachGood m) (h : insR m frame i = 0) : InsGood m frame i := by
  have hb : badR m i = false := by
    cases e : badR m i
    · rfl
    · simp [insR, e] at h
  have hr : regR m i = false := by
    cases e : regR m i
    · rfl
    · simp [insR, e, hb] at h
  have hs : slotR frame i = false := by
    cases e : slotR frame i
    · rfl
    · simp [insR, e, hb, hr] at h
  clear h
  simp only [regR, Bool.or_eq_false_iff, Bool.not_eq_false', inB, Bool.and_eq_true, decide_eq_true_eq] at hr
  obtain ⟨⟨⟨d0, d1⟩, a0, a1⟩, b0, b1⟩ := hr
  have hd : 0 ≤ i.dst ∧ i.dst < m.regs := by omega
  have ha : 0 ≤ i.a ∧ i.a < m.regs := by omega
  have hbb : 0 ≤ i.b ∧ i.b < m.regs := by omega
  clear d0 d1 a0 a1 b0 b1
  obtain ⟨p, l, x16, x17, ht, hp, hl, h16, h17⟩ := op_tab i.op
  have hne : l ≠ [] := by
    rintro rfl
    have : decide ((hasL i.op).toList = []) = true := by rw [ByteArray.toList_eq, hl]; rfl
    simp [badR, this] at hb
  have hslot : hasB 115 l = true → 0 ≤ i.imm ∧ i.imm < frame := by
    intro h
    rw [slotR, lt_tab hl, h, Bool.true_and] at hs
    simp only [inB, Bool.not_eq_false', Bool.and_eq_true, decide_eq_true_eq] at hs
    omega
  have hins : insertedB i.op = true → l = [100, 97] ∨ l = [97, 115] ∨ l = [100, 115] := by
    intro h
    simp only [insertedB, Bool.or_eq_true, beq_iff_eq] at h
    rcases h with (h | h) | h <;> (rw [h] at hl; rw [← hl]; decide)
  have h14 : (i.op == 14) = false := by
    rw [beq_eq_false_iff_ne]; intro e
    rw [e] at hl
    exact hne (by rw [← hl]; decide)
  clear hb hs
  simp only [opTab, List.mem_cons, Prod.mk.injEq, List.not_mem_nil, or_false] at ht
  obtain ⟨e1, e2, e3, e4, e5⟩ := btab p (by rcases ht with ⟨rfl, _⟩ | ⟨rfl, _⟩ | ⟨rfl, _⟩ | ⟨rfl, _⟩ | ⟨rfl, _⟩ | ⟨rfl, _⟩ | ⟨rfl, _⟩ | ⟨rfl, _⟩ | ⟨rfl, _⟩ <;> decide)
  have one : ∀ x : Loc, placeB m frame x = true → allB m frame [x] = true := fun x h => by simp [allB, h]
  rcases ht with ⟨rfl, rfl, rfl, rfl⟩ | ⟨rfl, rfl, rfl, rfl⟩ | ⟨rfl, rfl, rfl, rfl⟩ | ⟨rfl, rfl, rfl, rfl⟩ | ⟨rfl, rfl, rfl, rfl⟩ | ⟨rfl, rfl, rfl, rfl⟩ | ⟨rfl, rfl, rfl, rfl⟩ | ⟨rfl, rfl, rfl, rfl⟩ | ⟨rfl, rfl, rfl, rfl⟩
  case inr.inr.inr.inr.inr.inr.inr.inr => exact absurd rfl hne
  case inr.inr.inr.inr.inl =>
    have r : readsP m i = regsL (m.args.take (manyN m i)) := by unfold readsP; rw [hp, e1]; rfl
    have w : writesP m i = [⟨false, m.ret⟩] := by unfold writesP; rw [hp, e1]; rfl
    refine ⟨?_, ?_, by rw [w]; simp, fun h => ?_, h14⟩
    · rw [r]
      refine allB_of fun x hx => ?_
      obtain ⟨y, hy, rfl⟩ := List.mem_map.1 hx
      exact place_reg (hm.args y (List.mem_of_mem_take hy))
    · rw [w]; exact one _ (place_reg hm.ret)
    · rcases hins h with h | h | h <;> simp at h
  case inr.inl =>
    have r : readsP m i = [⟨false, i.a⟩, ⟨false, i.b⟩] := by unfold readsP; rw [hp, e1, e2]; rfl
    have w : writesP m i = [⟨false, i.dst⟩] := by unfold writesP; rw [hp, e1, e5]; rfl
    refine ⟨by rw [r]; simp [allB, place_reg ha, place_reg hbb], by rw [w]; exact one _ (place_reg hd), by rw [w]; simp, fun h => ?_, h14⟩
    rcases hins h with h | h | h <;> simp at h
  case inr.inr.inr.inl =>
    have r : readsP m i = [⟨false, i.a⟩, ⟨false, i.b⟩] := by unfold readsP; rw [hp, e1, e2]; rfl
    have w : writesP m i = [] := by unfold writesP; rw [hp, e1, e5, e4]; rfl
    refine ⟨by rw [r]; simp [allB, place_reg ha, place_reg hbb], by rw [w]; rfl, by rw [w]; simp, fun h => ?_, h14⟩
    rcases hins h with h | h | h <;> simp at h
  case inl =>
    have r : readsP m i = [] := by unfold readsP; rw [hp, e1, e2, e3, e4]; rfl
    have w : writesP m i = [⟨false, i.dst⟩] := by unfold writesP; rw [hp, e1, e5]; rfl
    refine ⟨by rw [r]; rfl, by rw [w]; exact one _ (place_reg hd), by rw [w]; simp, fun h => ?_, h14⟩
    rcases hins h with h | h | h <;> simp at h
  case inr.inr.inl =>
    have r : readsP m i = [⟨false, i.a⟩] := by unfold readsP; rw [hp, e1, e2, e3]; rfl
    have w : writesP m i = [⟨false, i.dst⟩] := by unfold writesP; rw [hp, e1, e5]; rfl
    refine ⟨by rw [r]; exact one _ (place_reg ha), by rw [w]; exact one _ (place_reg hd), by rw [w]; simp, fun h => by rw [r, w]; exact ⟨rfl, rfl⟩, h14⟩
  case inr.inr.inr.inr.inr.inl =>
    have r : readsP m i = [⟨false, i.a⟩] := by unfold readsP; rw [hp, e1, e2, e3]; rfl
    have w : writesP m i = [⟨false, i.dst⟩] := by unfold writesP; rw [hp, e1, e5]; rfl
    refine ⟨by rw [r]; exact one _ (place_reg ha), by rw [w]; exact one _ (place_reg hd), by rw [w]; simp, fun h => by rw [r, w]; exact ⟨rfl, rfl⟩, h14⟩
  case inr.inr.inr.inr.inr.inr.inl =>
    have r : readsP m i = [⟨false, i.a⟩] := by unfold readsP; rw [hp, e1, e2, e3]; rfl
    have w : writesP m i = [⟨true, i.imm⟩] := by unfold writesP; rw [hp, e1, e5, e4]; rfl
    refine ⟨by rw [r]; exact one _ (place_reg ha), by rw [w]; exact one _ (place_slot (hslot (by decide))), by rw [w]; simp, fun h => by rw [r, w]; exact ⟨rfl, rfl⟩, h14⟩
  case inr.inr.inr.inr.inr.inr.inr.inl =>
    have r : readsP m i = [⟨true, i.imm⟩] := by unfold readsP; rw [hp, e1, e2, e3, e4]; rfl
    have w : writesP m i = [⟨false, i.dst⟩] := by unfold writesP; rw [hp, e1, e5]; rfl
    refine ⟨by rw [r]; exact one _ (place_slot (hslot (by decide))), by rw [w]; exact one _ (place_reg hd), by rw [w]; simp, fun h => by rw [r, w]; exact ⟨rfl, rfl⟩, h14⟩
theorem toBad_ok {n r : Int} (h : ¬ toBad n r = true) : 0 ≤ r ∧ r < n := by
  simp only [toBad, Bool.or_eq_true, decide_eq_true_eq] at h; omega
theorem regBad_ok {m : Machine} {r : Int} (h : ¬ regBad m r = true) : 0 ≤ r ∧ r < m.regs := by
  simp only [regBad, Bool.or_eq_true, decide_eq_true_eq] at h; omega
theorem term_good {m : Machine} {frame n : Int} {t : Term} (hm : MachGood m) (hn : 1 ≤ n) (h : termP m n t = 0) : TermGood m frame n t := by
  have one : ∀ x : Loc, placeB m frame x = true → allB m frame [x] = true := fun x h => by simp [allB, h]
  unfold termP at h
  by_cases h1 : t.kind = 1
  · rw [if_pos h1] at h
    have nd : needsP t = [] := by rw [needsP, if_neg (by omega)]
    by_cases h2 : t.a ≠ 0 ∨ t.to1 ≠ 0
    · rw [if_pos h2] at h; omega
    · rw [if_neg h2] at h
      by_cases h3 : toBad n t.to0 = true
      · rw [if_pos h3] at h; omega
      · exact ⟨by rw [nd]; rfl, by rw [nd]; simp, fun e => by omega, toBad_ok h3, by omega⟩
  rw [if_neg h1] at h
  by_cases h2 : t.kind = 2
  · rw [if_pos h2] at h
    have nd : needsP t = [⟨false, t.a⟩] := by rw [needsP, if_pos (.inl h2)]
    by_cases h3 : regBad m t.a = true
    · rw [if_pos h3] at h; omega
    rw [if_neg h3] at h
    by_cases h4 : (toBad n t.to0 || toBad n t.to1) = true
    · rw [if_pos h4] at h; omega
    · simp only [Bool.or_eq_true, not_or] at h4
      exact ⟨by rw [nd]; exact one _ (place_reg (regBad_ok h3)), by rw [nd]; simp, fun e => by omega, toBad_ok h4.1, toBad_ok h4.2⟩
  rw [if_neg h2] at h
  by_cases h3 : t.kind = 3
  · rw [if_pos h3] at h
    by_cases h4 : t.to0 ≠ 0 ∨ t.to1 ≠ 0
    · rw [if_pos h4] at h; omega
    rw [if_neg h4] at h
    by_cases h5 : t.a ≠ -1 ∧ t.a ≠ m.ret
    · rw [if_pos h5] at h; omega
    by_cases h6 : t.a = -1
    · have nd : needsP t = [] := by rw [needsP, if_neg (by omega)]
      exact ⟨by rw [nd]; rfl, by rw [nd]; simp, fun _ e => absurd h6 e, by omega, by omega⟩
    · have nd : needsP t = [⟨false, t.a⟩] := by rw [needsP, if_pos (.inr ⟨h3, h6⟩)]
      have e : t.a = m.ret := by omega
      exact ⟨by rw [nd]; exact one _ (place_reg (e ▸ hm.ret)), by rw [nd]; simp, fun _ _ => e, by omega, by omega⟩
  rw [if_neg h3] at h
  by_cases h4 : t.kind = 4
  · rw [if_pos h4] at h
    have nd : needsP t = [] := by rw [needsP, if_neg (by omega)]
    by_cases h5 : t.a ≠ 0 ∨ t.to0 ≠ 0 ∨ t.to1 ≠ 0
    · rw [if_pos h5] at h; omega
    · exact ⟨by rw [nd]; rfl, by rw [nd]; simp, fun e => by omega, by omega, by omega⟩
  · rw [if_neg h4] at h; omega
structure TarGood (m : Machine) (t : Target) : Prop where
  mach : rightM m = true
  ins : ∀ b ∈ t.blocks, ∀ i ∈ b.ins, InsGood m t.frame i
  term : ∀ b ∈ t.blocks, TermGood m t.frame t.blocks.length b.term
theorem inssR_good {m : Machine} {frame : Int} : ∀ {l : List Ins}, inssR m frame l = 0 → ∀ i ∈ l, insR m frame i = 0
  | j :: l, h, i, hi => by
    unfold inssR at h
    by_cases e : insR m frame j = 0
    · rw [if_pos e] at h
      rcases List.mem_cons.1 hi with rfl | hi
      · exact e
      · exact inssR_good h i hi
    · rw [if_neg e] at h; exact absurd h e
theorem blocksR_good {m : Machine} {frame n : Int} : ∀ {l : List Block}, blocksR m frame n l = 0 → ∀ b ∈ l, inssR m frame b.ins = 0 ∧ termP m n b.term = 0
  | c :: l, h, b, hb => by
    unfold blocksR at h
    by_cases e : inssR m frame c.ins = 0
    · rw [if_pos e] at h
      by_cases e2 : termP m n c.term = 0
      · rw [if_pos e2] at h
        rcases List.mem_cons.1 hb with rfl | hb
        · exact ⟨e, e2⟩
        · exact blocksR_good h b hb
      · rw [if_neg e2] at h; exact absurd h e2
    · rw [if_neg e] at h; exact absurd h e
theorem tar_good {m : Machine} {t : Target} (h : rightR m t = 0) : TarGood m t := by
  unfold rightR at h
  by_cases h1 : rightM m = false
  · rw [if_pos h1] at h; omega
  rw [if_neg h1] at h
  by_cases h2 : (longR t.blocks.length t.frame || anyF longB t.blocks) = true
  · rw [if_pos h2] at h; omega
  rw [if_neg h2] at h
  have hm : rightM m = true := by simpa using h1
  have hl : 1 ≤ (t.blocks.length : Int) := by
    simp only [longR, Bool.or_eq_true, decide_eq_true_eq, not_or] at h2; omega
  exact ⟨hm, fun b hb i hi => ins_good (mach_good hm) (inssR_good (blocksR_good h b hb).1 i hi), fun b hb => term_good (mach_good hm) hl (blocksR_good h b hb).2⟩
end Go.Proofs.Ytkjipgelbjaggaa
