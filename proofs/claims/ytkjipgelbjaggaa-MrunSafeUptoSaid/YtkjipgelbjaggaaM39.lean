/- Plain: what stays of a run that goes on. -/
import Derived.Test.YtkjipgelbjaggaaM29
import Derived.Test.YtkjipgelbjaggaaM36
import Derived.Test.YtkjipgelbjaggaaM38
set_option linter.unusedSimpArgs false
set_option linter.unusedVariables false
namespace Go.Proofs.Ytkjipgelbjaggaa
open Go.RowKit Go.Maps
theorem blocksP_good {m : Machine} {frame n : Int} : ∀ {l : List Block}, blocksP m frame n l = 0 → ∀ b ∈ l, inssP m frame b.ins = 0 ∧ termP m n b.term = 0
  | c :: l, h, b, hb => by
    unfold blocksP at h
    by_cases e : inssP m frame c.ins = 0
    · rw [if_pos e] at h
      by_cases e2 : termP m n c.term = 0
      · rw [if_pos e2] at h
        rcases List.mem_cons.1 hb with rfl | hb
        · exact ⟨e, e2⟩
        · exact blocksP_good h b hb
      · rw [if_neg e2] at h; exact absurd h e2
    · rw [if_neg e] at h; exact absurd h e
theorem anyF_none {α : Type} {f : α → Bool} : ∀ {l : List α}, anyF f l = false → ∀ x ∈ l, f x = false
  | y :: l, h, x, hx => by
    simp only [anyF, Bool.or_eq_false_iff] at h
    rcases List.mem_cons.1 hx with rfl | hx
    · exact h.1
    · exact anyF_none h.2 x hx
structure RightParts (m : Machine) (t : Target) : Prop where
  mach : rightM m = true
  pos : 0 < t.blocks.length
  few : t.blocks.length ≤ 200
  short : ∀ b ∈ t.blocks, b.ins.length ≤ 4000
  good : ∀ b ∈ t.blocks, inssP m t.frame b.ins = 0 ∧ termP m t.blocks.length b.term = 0
theorem rightT_parts {m : Machine} {t : Target} (h : rightT m t = 0) : RightParts m t := by
  unfold rightT at h
  by_cases h1 : rightM m = false
  · rw [if_pos h1] at h; omega
  rw [if_neg h1] at h
  by_cases h2 : t.blocks.length = 0
  · rw [if_pos h2] at h; omega
  rw [if_neg h2] at h
  by_cases h3 : 200 < t.blocks.length
  · rw [if_pos h3] at h; omega
  rw [if_neg h3] at h
  by_cases h4 : IntKind.u64.wrap t.frame > 400
  · rw [if_pos h4] at h; omega
  rw [if_neg h4] at h
  by_cases h5 : anyF (fun b : Block => decide ((b.ins.length : Int) > 4000)) t.blocks = true
  · rw [if_pos h5] at h; omega
  rw [if_neg h5] at h
  refine ⟨by simpa using h1, by omega, by omega, fun b hb => ?_, fun b hb => blocksP_good h b hb⟩
  have := anyF_none (by simpa using h5) b hb
  simp at this; omega
theorem RightParts.term {m : Machine} {t : Target} (h : RightParts m t) {b : Block} (hb : b ∈ t.blocks) : 0 ≤ b.term.to0 ∧ b.term.to0 < t.blocks.length ∧ 0 ≤ b.term.to1 ∧ b.term.to1 < t.blocks.length := by
  have := term_good (frame := t.frame) (mach_good h.mach) (by have := h.pos; omega) (h.good b hb).2
  exact ⟨this.to0.1, this.to0.2, this.to1.1, this.to1.2⟩
theorem rightM_few {m : Machine} (h : rightM m = true) : m.args.length ≤ 8 ∧ m.saved.length ≤ 64 ∧ 1 ≤ m.regs ∧ m.regs ≤ 64 := by
  rw [← rightP_eq] at h
  simp only [rightP, Bool.and_eq_true, decide_eq_true_eq] at h
  omega
/-- what a step of an instruction leaves -/
structure InsFr (r : RunS) (i : Ins) (p : RunS × Nxt) : Prop where
  block : p.1.block = r.block
  ins : p.1.ins = r.ins
  m : p.1.m = r.m
  t : p.1.t = r.t
  fin : p.1.fin = r.fin
  steps : p.1.steps = r.steps
  first : p.1.first = r.first
  value : p.1.value = r.value
  mem : p.1.mem.length = r.mem.length
  calls : p.1.calls = r.calls ∨ p.1.calls = r.calls ++ [⟨i.callee, argsC r.cells (readsP r.m i)⟩]
  nxt : p.2 = .spot r.block (r.ins + 1) ∨ p.2 = .done 2 0 ∨ p.2 = .done 3 0
theorem callR9_mem (r : RunS) (i : Ins) : (callR9 r i).1.mem = r.mem ∧ (callR9 r i).1.calls = r.calls ++ [⟨i.callee, argsC r.cells (readsP r.m i)⟩] := by
  unfold callR9; split <;> exact ⟨rfl, rfl⟩
theorem valueR_mem (r : RunS) (i : Ins) : (valueR r i).1.mem.length = r.mem.length ∧ ((valueR r i).1.calls = r.calls ∨ (valueR r i).1.calls = r.calls ++ [⟨i.callee, argsC r.cells (readsP r.m i)⟩]) := by
  have hc := callR9_mem r i
  unfold valueR
  split
  · exact ⟨rfl, .inl rfl⟩
  split
  · split
    · exact ⟨by show (callR9 r i).1.mem.length = _; rw [hc.1], .inr hc.2⟩
    · exact ⟨by show (callR9 r i).1.mem.length = _; rw [hc.1], .inr hc.2⟩
  split
  · split <;> exact ⟨rfl, .inl rfl⟩
  split
  · split
    · exact ⟨by simp, .inl rfl⟩
    · exact ⟨rfl, .inl rfl⟩
  split <;> exact ⟨rfl, .inl rfl⟩
theorem insR9_fr (r : RunS) (i : Ins) : InsFr r i (insR9 r i) := by
  obtain ⟨a1, a2, a3, a4, a5, a6, a7, a8⟩ := valueR_frame r i
  obtain ⟨b1, b2⟩ := valueR_mem r i
  unfold insR9
  split
  · split
    · exact ⟨a1, a2, a3, a4, a5, a6, a7, a8, b1, b2, .inl rfl⟩
    · exact ⟨a1, a2, a3, a4, a5, a6, a7, a8, b1, b2, .inr (.inl rfl)⟩
  · exact ⟨rfl, rfl, rfl, rfl, rfl, rfl, rfl, rfl, rfl, .inl rfl, .inr (.inr rfl)⟩
theorem termR9_nxt (r : RunS) (t : Term) : (∃ e v, termR9 r t = .done e v ∧ e ≠ 0) ∨ termR9 r t = .spot t.to0 0 ∨ termR9 r t = .spot t.to1 0 := by
  unfold termR9
  split
  · split
    · exact .inl ⟨_, _, rfl, by decide⟩
    split
    · split <;> exact .inl ⟨_, _, rfl, by decide⟩
    split
    · exact .inr (.inr rfl)
    · exact .inr (.inl rfl)
  · exact .inl ⟨_, _, rfl, by decide⟩
/-- a run that goes on, behind N steps at most -/
structure RunInv (r : RunS) (N : Nat) : Prop where
  ok : rightT r.m r.t = 0
  ret : InI r.m.ret
  b0 : 0 ≤ r.block
  b1 : r.block < r.t.blocks.length
  i0 : 0 ≤ r.ins
  i1 : r.ins ≤ (blockR r).ins.length
  s0 : 0 ≤ r.steps
  s1 : r.steps ≤ N
  cl : r.calls.length ≤ N
  ca : ∀ c ∈ r.calls, c.args.length ≤ 64
  ml : r.mem.length ≤ 64
theorem blockR_mem {r : RunS} (h0 : 0 ≤ r.block) (h1 : r.block < r.t.blocks.length) : blockR r ∈ r.t.blocks := by
  unfold blockR
  have hl : r.block.toNat < r.t.blocks.length := by omega
  rw [List.getD_eq_getElem?_getD, List.getElem?_eq_getElem hl]
  exact List.getElem_mem hl
theorem RunInv.step {r : RunS} {N : Nat} (h : RunInv r N) : RunInv (stepR r).1 (N + 1) := by
  have hp := rightT_parts h.ok
  have hB := blockR_mem h.b0 h.b1
  unfold stepR
  split
  · exact ⟨h.ok, h.ret, h.b0, h.b1, h.i0, h.i1, h.s0, by have := h.s1; show r.steps ≤ _; omega, by have := h.cl; show r.calls.length ≤ _; omega, h.ca, h.ml⟩
  split
  · rename_i hi
    obtain ⟨i, hii⟩ : ∃ i, i = (blockR r).ins.getD r.ins.toNat default := ⟨_, rfl⟩
    rw [← hii]
    have f := insR9_fr { r with steps := r.steps + 1 } i
    have hcl : (insR9 { r with steps := r.steps + 1 } i).1.calls.length ≤ N + 1 := by
      rcases f.calls with e | e
      · rw [e]; have := h.cl; show r.calls.length ≤ _; omega
      · rw [e, List.length_append]; have := h.cl; show r.calls.length + 1 ≤ _; omega
    have hca : ∀ c ∈ (insR9 { r with steps := r.steps + 1 } i).1.calls, c.args.length ≤ 64 := by
      intro c hc
      rcases f.calls with e | e
      · rw [e] at hc; exact h.ca c hc
      · rw [e] at hc
        rcases List.mem_append.1 hc with hc | hc
        · exact h.ca c hc
        · rw [List.mem_singleton.1 hc]
          show (argsC _ (readsP r.m i)).length ≤ 64
          unfold argsC
          rw [List.length_map]
          have := readsP_len r.m i
          have := (rightM_few hp.mach).1
          omega
    have hml : (insR9 { r with steps := r.steps + 1 } i).1.mem.length ≤ 64 := by rw [f.mem]; exact h.ml
    have hst : (insR9 { r with steps := r.steps + 1 } i).1.steps = r.steps + 1 := f.steps
    have hs1 := h.s1; have hs0 := h.s0
    rcases f.nxt with e | e | e
    · rw [e]
      refine ⟨by show rightT (insR9 _ i).1.m (insR9 _ i).1.t = 0; rw [f.m, f.t]; exact h.ok, by show InI (insR9 _ i).1.m.ret; rw [f.m]; exact h.ret, h.b0, by show r.block < (insR9 _ i).1.t.blocks.length; rw [f.t]; exact h.b1, by show 0 ≤ r.ins + 1; have := h.i0; omega, ?_, by show 0 ≤ (insR9 _ i).1.steps; rw [hst]; omega, by show (insR9 _ i).1.steps ≤ _; rw [hst]; omega, hcl, hca, hml⟩
      show r.ins + 1 ≤ (blockR (goR (insR9 _ i).1 (.spot r.block (r.ins + 1)))).ins.length
      have : blockR (goR (insR9 { r with steps := r.steps + 1 } i).1 (.spot r.block (r.ins + 1))) = blockR r := by unfold blockR goR; show (insR9 _ i).1.t.blocks.getD r.block.toNat default = _; rw [f.t]
      have e2 : (blockR (goR (insR9 { r with steps := r.steps + 1 } i).1 (.spot { r with steps := r.steps + 1 }.block ({ r with steps := r.steps + 1 }.ins + 1)))) = blockR r := this
      rw [e2]; omega
    all_goals
      rw [e]
      refine ⟨by show rightT (insR9 _ i).1.m (insR9 _ i).1.t = 0; rw [f.m, f.t]; exact h.ok, by show InI (insR9 _ i).1.m.ret; rw [f.m]; exact h.ret, by show 0 ≤ (insR9 _ i).1.block; rw [f.block]; exact h.b0, by show (insR9 _ i).1.block < (insR9 _ i).1.t.blocks.length; rw [f.t, f.block]; exact h.b1, by show 0 ≤ (insR9 _ i).1.ins; rw [f.ins]; exact h.i0, ?_, by show 0 ≤ (insR9 _ i).1.steps; rw [hst]; omega, by show (insR9 _ i).1.steps ≤ _; rw [hst]; omega, hcl, hca, hml⟩
      show (insR9 _ i).1.ins ≤ ((insR9 _ i).1.t.blocks.getD (insR9 _ i).1.block.toNat default).ins.length
      rw [f.ins, f.t, f.block]; exact h.i1
  · have hT := hp.term hB
    have hs1 := h.s1; have hs0 := h.s0
    have base : ∀ nx, nx = termR9 { r with steps := r.steps + 1 } (blockR r).term → RunInv (goR { r with steps := r.steps + 1 } nx) (N + 1) := by
      intro nx hnx
      rcases termR9_nxt { r with steps := r.steps + 1 } (blockR r).term with ⟨e, v, h1, _⟩ | h1 | h1
      · rw [hnx, h1]
        exact ⟨h.ok, h.ret, h.b0, h.b1, h.i0, h.i1, by show 0 ≤ r.steps + 1; omega, by show r.steps + 1 ≤ _; omega, by have := h.cl; show r.calls.length ≤ _; omega, h.ca, h.ml⟩
      · rw [hnx, h1]
        exact ⟨h.ok, h.ret, hT.1, hT.2.1, Int.le_refl _, by show (0 : Int) ≤ _; omega, by show 0 ≤ r.steps + 1; omega, by show r.steps + 1 ≤ _; omega, by have := h.cl; show r.calls.length ≤ _; omega, h.ca, h.ml⟩
      · rw [hnx, h1]
        exact ⟨h.ok, h.ret, hT.2.2.1, hT.2.2.2, Int.le_refl _, by show (0 : Int) ≤ _; omega, by show 0 ≤ r.steps + 1; omega, by show r.steps + 1 ≤ _; omega, by have := h.cl; show r.calls.length ≤ _; omega, h.ca, h.ml⟩
    exact base _ rfl
theorem RunInv.stepOk {r : RunS} {N : Nat} (h : RunInv r N) (hN : N < 1048576) : StepOk r := by
  have hp := rightT_parts h.ok
  have hB := hp.short _ (blockR_mem h.b0 h.b1)
  have := h.i1; have := h.s1; have := h.cl; have := (rightM_few hp.mach).1
  exact ⟨h.ret, h.b0, h.b1, h.i0, by omega, h.s0, by omega, by omega, by omega⟩
theorem startR_inv {m : Machine} {t : Target} {args mem answers first : List Int} (h : errR m t args mem = 0) (hr : InI m.ret) : RunInv (startR m t args mem answers first) 0 := by
  unfold errR at h
  by_cases h1 : rightT m t ≠ 0
  · rw [if_pos h1] at h; exact absurd h h1
  rw [if_neg h1] at h
  by_cases h2 : args.length > m.args.length ∨ mem.length > 64
  · rw [if_pos h2] at h; omega
  have h1' : rightT m t = 0 := by omega
  have hp := rightT_parts h1'
  exact ⟨h1', hr, Int.le_refl _, by have := hp.pos; show (0 : Int) < t.blocks.length; omega, Int.le_refl _, by show (0 : Int) ≤ _; omega, Int.le_refl _, Int.le_refl _, Nat.le_refl _, (fun c hc => by cases hc), by show mem.length ≤ 64; omega⟩
/-- so many steps -/
noncomputable def runN : Nat → RunS → RunS
  | 0, r => r
  | n + 1, r => (stepR (runN n r)).1
theorem runN_inv {r : RunS} {N : Nat} (h : RunInv r N) : ∀ n, RunInv (runN n r) (N + n)
  | 0 => h
  | n + 1 => (runN_inv h n).step
end Go.Proofs.Ytkjipgelbjaggaa
