/- The plain law: the program's way and the document's of saying when a target is right. -/
import Derived.Test.YtahblhiolkdnnaaW16
set_option linter.unusedSimpArgs false
set_option linter.unusedVariables false
namespace Go.Proofs.Ytahblhiolkdnnaa
open Go.RowKit
theorem u64_gt {x : Int} (h : InI x) (c : Int) (hc : 0 ≤ c ∧ c ≤ 9223372036854775807) : (IntKind.u64.wrap x > c) ↔ (x < 0 ∨ c < x) := by
  obtain ⟨h1, h2⟩ := h
  rw [IntKind.wrap_u64]; omega
theorem u64_ge {x : Int} (h : InI x) (c : Int) (hc : 0 ≤ c ∧ c ≤ 9223372036854775807) : (IntKind.u64.wrap x ≥ c) ↔ (x < 0 ∨ c ≤ x) := by
  obtain ⟨h1, h2⟩ := h
  rw [IntKind.wrap_u64]; omega
/-- bits and letters -/
structure Parts (o : Int) (z d a b i s c : Bool) : Prop where
  pz : (hasP o == 0) = z
  pze : decide ((hasL o).toList = []) = z
  pd : bt (hasP o) 1 = d
  pa : bt (hasP o) 2 = a
  pb : bt (hasP o) 4 = b
  pi : bt (hasP o) 8 = i
  ps : bt (hasP o) 16 = s
  pis : bt (hasP o) 24 = (i || s)
  pc : bt (hasP o) 32 = c
  pld : lt o 100 = d
  pla : lt o 97 = a
  plb : lt o 98 = b
  pli : lt o 105 = i
  pls : lt o 115 = s
  plc : decide ((hasL o).toList = [99]) = c
theorem parts_of (o : Int) : ∃ z d a b i s c, Parts o z d a b i s c ∧ (i && s) = false := by
  by_cases h1 : o = 1
  · subst h1; exact ⟨false, true, false, false, true, false, false, by constructor <;> (first | decide | (rw [ByteArray.toList_eq]; decide)), rfl⟩
  by_cases h2 : 2 ≤ o ∧ o ≤ 10
  · have hp : hasP o = 7 := by simp [hasP, h1, h2]
    have hl : hasL o = ⟨#[100, 97, 98]⟩ := by simp [hasL, h1, h2]
    exact ⟨false, true, true, true, false, false, false, by constructor <;> (first | (simp only [lt, hp, hl]; decide) | (rw [ByteArray.toList_eq]; simp only [hl]; decide)), rfl⟩
  by_cases h3 : o = 11
  · subst h3; exact ⟨false, true, true, false, true, false, false, by constructor <;> (first | decide | (rw [ByteArray.toList_eq]; decide)), rfl⟩
  by_cases h4 : o = 12
  · subst h4; exact ⟨false, false, true, true, true, false, false, by constructor <;> (first | decide | (rw [ByteArray.toList_eq]; decide)), rfl⟩
  by_cases h5 : o = 13
  · subst h5; exact ⟨false, false, false, false, false, false, true, by constructor <;> (first | decide | (rw [ByteArray.toList_eq]; decide)), rfl⟩
  by_cases h6 : o = 15
  · subst h6; exact ⟨false, true, true, false, false, false, false, by constructor <;> (first | decide | (rw [ByteArray.toList_eq]; decide)), rfl⟩
  by_cases h7 : o = 16
  · subst h7; exact ⟨false, false, true, false, false, true, false, by constructor <;> (first | decide | (rw [ByteArray.toList_eq]; decide)), rfl⟩
  by_cases h8 : o = 17
  · subst h8; exact ⟨false, true, false, false, false, true, false, by constructor <;> (first | decide | (rw [ByteArray.toList_eq]; decide)), rfl⟩
  have hp : hasP o = 0 := by simp [hasP, h1, h2, h3, h4, h5, h6, h7, h8]
  have hl : hasL o = ⟨#[]⟩ := by simp [hasL, h1, h2, h3, h4, h5, h6, h7, h8]
  exact ⟨true, false, false, false, false, false, false, by constructor <;> (first | (simp only [lt, hp, hl]; decide) | (rw [ByteArray.toList_eq]; simp only [hl]; decide)), rfl⟩
theorem ite_or {p q : Prop} [Decidable p] [Decidable q] {a b : Int} : (if p then a else if q then a else b) = if p ∨ q then a else b := by
  by_cases hp : p
  · simp [hp]
  · by_cases hq : q <;> simp [hp, hq]
/-- The two ways say the same. -/
theorem insP_eq {m : Machine} {frame : Int} {i : Ins} (h1 : InI i.imm) (h2 : InI i.callee) (h3 : InI i.many) (hf : 0 ≤ frame ∧ frame ≤ 400) (hm : m.args.length ≤ 9223372036854775807) : insP m frame i = insR m frame i := by
  obtain ⟨z, d, a, b, im, s, c, P, hx⟩ := parts_of i.op
  have hlen : IntKind.u64.wrap (m.args.length : Int) = m.args.length := IntWalk.u64_in _ (by omega)
  have hfr : IntKind.u64.wrap frame = frame := IntWalk.u64_in _ (by omega)
  have hreg : anyF (regBad m) [i.dst, i.a, i.b] = regR m i := by simp [anyF, regR, inB_reg, Bool.or_assoc]
  have hslot : (bt (hasP i.op) 16 && decide (IntKind.u64.wrap i.imm ≥ IntKind.u64.wrap frame)) = slotR frame i := by
    unfold slotR
    rw [P.ps, P.pls, hfr, show decide (IntKind.u64.wrap i.imm ≥ frame) = decide (i.imm < 0 ∨ frame ≤ i.imm) from decide_eq_decide.2 (u64_ge h1 frame (by omega))]
    congr 1
    unfold inB
    by_cases g1 : i.imm < 0
    · have : ¬ 0 ≤ i.imm := by omega
      simp [g1, this]
    · have g1' : 0 ≤ i.imm := by omega
      by_cases g2 : frame ≤ i.imm
      · have : ¬ i.imm ≤ frame - 1 := by omega
        simp [g2, this]
      · have : i.imm ≤ frame - 1 := by omega
        simp [g1, g2, g1', this]
  have hbad : (badR m i = true) ↔ ((hasP i.op == 0) = true ∨ (0 : Int) < i.args.length ∨ oddB (bt (hasP i.op) 1) i.dst = true ∨ oddB (bt (hasP i.op) 2) i.a = true ∨ oddB (bt (hasP i.op) 4) i.b = true ∨ oddB (bt (hasP i.op) 24) i.imm = true ∨
      oddB (bt (hasP i.op) 32) i.callee = true ∨ oddB (bt (hasP i.op) 32) i.many = true ∨ (bt (hasP i.op) 8 && (decide (i.imm < -1099511627776) || decide (i.imm > 1099511627776))) = true ∨ IntKind.u64.wrap i.callee > 99 ∨ IntKind.u64.wrap i.many > IntKind.u64.wrap m.args.length) := by
    rw [hlen, u64_gt h2 99 (by omega), u64_gt h3 _ (by omega)]
    unfold badR immR callR oddB inB
    rw [P.pz, P.pze, P.pd, P.pa, P.pb, P.pis, P.pi, P.pc, P.pld, P.pla, P.plb, P.pli, P.pls, P.plc]
    cases z <;> cases d <;> cases a <;> cases b <;> cases im <;> cases s <;> cases c <;> simp at hx ⊢ <;> omega
  unfold insP insP2 insP3 insP4 insP5 insP6 insP7 insP8 insP9 insR
  rw [hreg, hslot]
  simp only [ite_or]
  by_cases hb : badR m i = true
  · rw [if_pos hb, if_pos]
    have := hbad.1 hb
    first | exact this | (simp only [or_assoc]; exact this)
  · rw [if_neg hb, if_neg]
    intro h
    exact hb (hbad.2 (by first | exact h | simpa only [or_assoc] using h))
/-- What Go's ints ask of an instruction. -/
def GoodI (i : Ins) : Prop := InI i.imm ∧ InI i.callee ∧ InI i.many
theorem inss_eq {m : Machine} {frame : Int} (hf : 0 ≤ frame ∧ frame ≤ 400) (hm : m.args.length ≤ 9223372036854775807) : ∀ l : List Ins, (∀ i ∈ l, GoodI i) → inssP m frame l = inssR m frame l
  | [], _ => rfl
  | i :: l, h => by
    have e := inss_eq hf hm l fun j hj => h j (List.mem_cons_of_mem _ hj)
    obtain ⟨a, b, c⟩ := h i List.mem_cons_self
    simp only [inssP, inssR, insP_eq a b c hf hm, e]
theorem blocks_eq {m : Machine} {frame n : Int} (hf : 0 ≤ frame ∧ frame ≤ 400) (hm : m.args.length ≤ 9223372036854775807) : ∀ l : List Block, (∀ b ∈ l, ∀ i ∈ b.ins, GoodI i) → blocksP m frame n l = blocksR m frame n l
  | [], _ => rfl
  | b :: l, h => by
    have e := blocks_eq (n := n) hf hm l fun j hj => h j (List.mem_cons_of_mem _ hj)
    simp only [blocksP, blocksR, inss_eq hf hm b.ins (h b List.mem_cons_self), e]
/-- **Chapter 6's law.** -/
theorem right_eq {m : Machine} {t : Target} (hfr : InI t.frame) (hm : m.args.length ≤ 9223372036854775807) (h : ∀ b ∈ t.blocks, ∀ i ∈ b.ins, GoodI i) : rightT m t = rightR m t := by
  unfold rightT rightR
  by_cases hr : rightM m = false
  · rw [if_pos hr, if_pos hr]
  rw [if_neg hr, if_neg hr]
  by_cases h0 : t.blocks.length = 0
  · rw [if_pos h0, if_pos (by simp [longR, h0])]
  rw [if_neg h0]
  by_cases h2 : 200 < t.blocks.length
  · rw [if_pos h2, if_pos (by have : (t.blocks.length : Int) > 200 := by omega
                              simp [longR, this])]
  rw [if_neg h2]
  by_cases h4 : IntKind.u64.wrap t.frame > 400
  · rw [if_pos h4, if_pos]
    have := (u64_gt hfr 400 (by omega)).1 h4
    have hi : inB t.frame 0 400 = false := by
      unfold inB
      rcases this with g | g
      · have : ¬ 0 ≤ t.frame := by omega
        simp [this]
      · have : ¬ t.frame ≤ 400 := by omega
        simp [this]
    simp [longR, hi]
  rw [if_neg h4]
  have hf : 0 ≤ t.frame ∧ t.frame ≤ 400 := by
    have : ¬ (t.frame < 0 ∨ 400 < t.frame) := fun g => h4 ((u64_gt hfr 400 (by omega)).2 g)
    omega
  have hl : longR t.blocks.length t.frame = false := by
    have a1 : ¬ t.blocks.length < 1 := by omega
    have a2 : ¬ (t.blocks.length : Int) > 200 := by omega
    have a3 : inB t.frame 0 400 = true := by unfold inB; simp [hf]
    unfold longR
    rw [a3, decide_eq_false a1, decide_eq_false a2]; rfl
  rw [hl, Bool.false_or, show (fun b : Block => decide ((b.ins.length : Int) > 4000)) = longB from rfl, blocks_eq hf hm t.blocks h]
/-- A list of blocks in memory is such. -/
theorem good_of {w : World} {S : Nat → Prop} {A : Option Addr} {n c : Nat} {l : List Block} (h : Sl w S A n c l) : ∀ b ∈ l, ∀ i ∈ b.ins, GoodI i := by
  intro b hb i hi
  obtain ⟨k, hk⟩ := List.mem_iff_getElem?.1 hb
  have hkn : k < n := by rw [← h.len]; exact (List.getElem?_eq_some_iff.1 hk).1
  obtain ⟨_, _, x, _, _, _, _, _, hx, hins, -⟩ := at_Block h hkn
  rw [hk] at hx; cases hx
  obtain ⟨j, hj⟩ := List.mem_iff_getElem?.1 hi
  have hjn := by have := (List.getElem?_eq_some_iff.1 hj).1; rw [hins.len] at this; exact this
  obtain ⟨_, _, y, _, _, _, _, _, hy, -, -, -, -, a1, a2, -, a3, -⟩ := at_Ins hins hjn
  rw [hj] at hy; cases hy
  exact ⟨a1, a2, a3⟩
end Go.Proofs.Ytahblhiolkdnnaa
