/- A run in memory. -/
import Derived.Test.YtkjipgelbjaggaaM13
set_option linter.unusedSimpArgs false
set_option linter.unusedVariables false
namespace Go.Proofs.Ytkjipgelbjaggaa
open Go.RowKit Go.Maps
structure RunS where
  cells : Loc → Option Int
  block : Int
  ins : Int
  fin : Int
  value : Int
  m : Machine
  t : Target
  first : Loc → Option Int
  mem : List Int
  answers : List Int
  calls : List Call
  steps : Int
/-- where it lies -/
structure RunM where
  bc : Nat
  bf : Nat
  A1 : Option Addr
  n1 : Nat
  c1 : Nat
  A2 : Option Addr
  n2 : Nat
  c2 : Nat
  A : Option Addr
  n : Nat
  c : Nat
  vm : Value
  Aa : Option Addr
  na : Nat
  ca : Nat
  vc : Value
  So : Nat → Prop
  S : Nat → Prop
def mineB (q : RunM) (X b : Nat) : Prop := b = X ∨ b = q.bc ∨ b = q.bf ∨ q.vm.ownBlock = some b ∨ q.vc.ownBlock = some b
def runCells (q : RunM) (r : RunS) : Array Value := #[.map (some q.bc), .int .i64 r.block, .int .i64 r.ins, .int .i64 r.fin, .int .i64 r.value, .int .i64 r.m.regs, .slice q.A1 q.n1 q.c1, .int .i64 r.m.ret, .slice q.A2 q.n2 q.c2, .int .i64 r.t.frame, .slice q.A q.n q.c, .map (some q.bf), q.vm, .slice q.Aa q.na q.ca, q.vc, .int .i64 r.steps]
structure RunAt (w : World) (base X K : Nat) (q : RunM) (r : RunS) : Prop where
  hX : base ≤ X
  blk : w.heap[X]? = some (.cells (runCells q r) 104 (0, 0))
  cells : CMap w q.bc K r.cells
  first : CMap w q.bf K r.first
  args : Sl w q.S q.A1 q.n1 q.c1 r.m.args
  saved : Sl w q.S q.A2 q.n2 q.c2 r.m.saved
  blocks : Sl w q.S q.A q.n q.c r.t.blocks
  mem : OwnL w base 3 (fun _ => False) q.vm r.mem
  answers : Sl w q.S q.Aa q.na q.ca r.answers
  calls : OwnL w base 93 q.So q.vc r.calls
  hbc : base ≤ q.bc
  hbf : base ≤ q.bf
  d0 : X ≠ q.bc
  d1 : X ≠ q.bf
  d2 : q.bc ≠ q.bf
  dm : ∀ b, q.vm.ownBlock = some b → b ≠ X ∧ b ≠ q.bc ∧ b ≠ q.bf ∧ q.vc.ownBlock ≠ some b
  dc : ∀ b, q.vc.ownBlock = some b → b ≠ X ∧ b ≠ q.bc ∧ b ≠ q.bf
  dS : ∀ b, q.S b → ¬ mineB q X b ∧ b < w.heap.size
  dSo : ∀ b, q.So b → ¬ mineB q X b ∧ b < w.heap.size
theorem row_setCell {w : World} {b : Nat} {cs : Array Value} {t : TypeId} (h : w.heap[b]? = some (.cells cs t (0, 0))) (j : Nat) (u : Value) : (w.setCell ⟨b, j, none⟩ u).heap[b]? = some (.cells (cs.setIfInBounds j u) t (0, 0)) := by
  show (w.heap.modify b _)[b]? = _
  rw [Array.getElem?_modify, if_pos rfl, h]; rfl
section
variable {w w' : World} {base X K : Nat} {q : RunM} {r : RunS}
theorem RunAt.lt (h : RunAt w base X K q r) : X < w.heap.size := (Array.getElem?_eq_some_iff.1 h.blk).1
theorem RunAt.cell (h : RunAt w base X K q r) (j : Nat) : w.cell? ⟨X, j, none⟩ = (runCells q r)[j]? := cell_of_row w X _ _ _ (0, 0) h.blk
theorem RunAt.k0 (h : RunAt w base X K q r) : w.cell? ⟨X, 0, none⟩ = some (.map (some q.bc)) := h.cell 0
theorem RunAt.k1 (h : RunAt w base X K q r) : w.cell? ⟨X, 1, none⟩ = some (.int .i64 r.block) := h.cell 1
theorem RunAt.k2 (h : RunAt w base X K q r) : w.cell? ⟨X, 2, none⟩ = some (.int .i64 r.ins) := h.cell 2
theorem RunAt.k3 (h : RunAt w base X K q r) : w.cell? ⟨X, 3, none⟩ = some (.int .i64 r.fin) := h.cell 3
theorem RunAt.k4 (h : RunAt w base X K q r) : w.cell? ⟨X, 4, none⟩ = some (.int .i64 r.value) := h.cell 4
theorem RunAt.k5 (h : RunAt w base X K q r) : w.cell? ⟨X, 5, none⟩ = some (.int .i64 r.m.regs) := h.cell 5
theorem RunAt.k6 (h : RunAt w base X K q r) : w.cell? ⟨X, 6, none⟩ = some (.slice q.A1 q.n1 q.c1) := h.cell 6
theorem RunAt.k7 (h : RunAt w base X K q r) : w.cell? ⟨X, 7, none⟩ = some (.int .i64 r.m.ret) := h.cell 7
theorem RunAt.k8 (h : RunAt w base X K q r) : w.cell? ⟨X, 8, none⟩ = some (.slice q.A2 q.n2 q.c2) := h.cell 8
theorem RunAt.k9 (h : RunAt w base X K q r) : w.cell? ⟨X, 9, none⟩ = some (.int .i64 r.t.frame) := h.cell 9
theorem RunAt.k10 (h : RunAt w base X K q r) : w.cell? ⟨X, 10, none⟩ = some (.slice q.A q.n q.c) := h.cell 10
theorem RunAt.k11 (h : RunAt w base X K q r) : w.cell? ⟨X, 11, none⟩ = some (.map (some q.bf)) := h.cell 11
theorem RunAt.k12 (h : RunAt w base X K q r) : w.cell? ⟨X, 12, none⟩ = some q.vm := h.cell 12
theorem RunAt.k13 (h : RunAt w base X K q r) : w.cell? ⟨X, 13, none⟩ = some (.slice q.Aa q.na q.ca) := h.cell 13
theorem RunAt.k14 (h : RunAt w base X K q r) : w.cell? ⟨X, 14, none⟩ = some q.vc := h.cell 14
theorem RunAt.k15 (h : RunAt w base X K q r) : w.cell? ⟨X, 15, none⟩ = some (.int .i64 r.steps) := h.cell 15
theorem RunAt.fz (h : RunAt w base X K q r) (j : Nat) : w.frozen? ⟨X, j, none⟩ = false := by simp [World.frozen?, h.blk]
/-- what it lies in is as it was -/
theorem RunAt.keepB (h : RunAt w base X K q r) (hs : w.heap.size ≤ w'.heap.size) (hk : ∀ b, b < w.heap.size → mineB q X b ∨ q.S b ∨ q.So b → w'.heap[b]? = w.heap[b]?) : RunAt w' base X K q r :=
  ⟨h.hX, (hk _ h.lt (.inl (.inl rfl))).trans h.blk, h.cells.keep (hk _ h.cells.lt (.inl (.inr (.inl rfl)))), h.first.keep (hk _ h.first.lt (.inl (.inr (.inr (.inl rfl))))),
    h.args.keep hs (fun b hb hl => hk b hl (.inr (.inl hb))), h.saved.keep hs (fun b hb hl => hk b hl (.inr (.inl hb))), h.blocks.keep hs (fun b hb hl => hk b hl (.inr (.inl hb))),
    h.mem.keep hs (fun b hb _ => hb.elim) (fun g hg => hk g (h.mem.below_ g hg).2 (.inl (.inr (.inr (.inr (.inl hg)))))), h.answers.keep hs (fun b hb hl => hk b hl (.inr (.inl hb))),
    h.calls.keep hs (fun b hb hl => hk b hl (.inr (.inr hb))) (fun g hg => hk g (h.calls.below_ g hg).2 (.inl (.inr (.inr (.inr (.inr hg)))))), h.hbc, h.hbf, h.d0, h.d1, h.d2, h.dm, h.dc, fun b hb => ⟨(h.dS b hb).1, Nat.lt_of_lt_of_le (h.dS b hb).2 hs⟩,
    fun b hb => ⟨(h.dSo b hb).1, Nat.lt_of_lt_of_le (h.dSo b hb).2 hs⟩⟩
theorem RunAt.keep (h : RunAt w base X K q r) (hb : Below w.heap.size w w') : RunAt w' base X K q r := h.keepB hb.size fun b hl _ => hb.block b hl
theorem RunAt.ext (h : RunAt w base X K q r) (u : Ext) : RunAt (w.ext u) base X K q r := h.keep (Below.of_ext w u (Nat.le_refl _))
theorem RunAt.alloc (h : RunAt w base X K q r) (o : Obj) : RunAt (w.alloc o) base X K q r := h.keep ((Below.refl _ _).alloc (Nat.le_refl _) _)
theorem RunAt.drew (h : RunAt w base X K q r) : RunAt w.drew base X K q r := h.keep ((Below.refl _ _).drew)
theorem RunAt.more (h : RunAt w base X K q r) {K' : Nat} (hK : K ≤ K') : RunAt w base X K' q r := { h with cells := h.cells.mono hK, first := h.first.mono hK }
theorem not_mine {b : Nat} (h : ¬ mineB q X b) : b ≠ X ∧ b ≠ q.bc ∧ b ≠ q.bf ∧ q.vm.ownBlock ≠ some b ∧ q.vc.ownBlock ≠ some b :=
  ⟨fun e => h (.inl e), fun e => h (.inr (.inl e)), fun e => h (.inr (.inr (.inl e))), fun e => h (.inr (.inr (.inr (.inl e)))), fun e => h (.inr (.inr (.inr (.inr e))))⟩
/-- a plain part is written -/
theorem RunAt.put_ (h : RunAt w base X K q r) {j : Nat} {v : Value} {r' : RunS} (hc : (runCells q r).setIfInBounds j v = runCells q r') (e1 : r'.cells = r.cells) (e2 : r'.first = r.first) (e3 : r'.m = r.m) (e4 : r'.t = r.t) (e5 : r'.mem = r.mem) (e6 : r'.answers = r.answers) (e7 : r'.calls = r.calls) :
    RunAt (w.setCell ⟨X, j, none⟩ v) base X K q r' := by
  have hk : ∀ b, b ≠ X → (w.setCell ⟨X, j, none⟩ v).heap[b]? = w.heap[b]? := fun b hb => Below.heap_setCell w _ v b (fun e => hb e)
  have hs : w.heap.size ≤ (w.setCell ⟨X, j, none⟩ v).heap.size := by simp
  have hS : ∀ b, q.S b → b ≠ X := fun b hb => (not_mine (h.dS b hb).1).1
  exact ⟨h.hX, by rw [row_setCell h.blk, hc], by rw [e1]; exact h.cells.keep (hk _ (Ne.symm h.d0)), by rw [e2]; exact h.first.keep (hk _ (Ne.symm h.d1)),
    by rw [e3]; exact h.args.keep hs (fun b hb _ => hk b (hS b hb)), by rw [e3]; exact h.saved.keep hs (fun b hb _ => hk b (hS b hb)), by rw [e4]; exact h.blocks.keep hs (fun b hb _ => hk b (hS b hb)),
    by rw [e5]; exact h.mem.keep hs (fun b hb _ => hb.elim) (fun g hg => hk g (h.dm g hg).1), by rw [e6]; exact h.answers.keep hs (fun b hb _ => hk b (hS b hb)),
    by rw [e7]; exact h.calls.keep hs (fun b hb _ => hk b (not_mine (h.dSo b hb).1).1) (fun g hg => hk g (h.dc g hg).1), h.hbc, h.hbf, h.d0, h.d1, h.d2, h.dm, h.dc, fun b hb => ⟨(h.dS b hb).1, Nat.lt_of_lt_of_le (h.dS b hb).2 hs⟩,
    fun b hb => ⟨(h.dSo b hb).1, Nat.lt_of_lt_of_le (h.dSo b hb).2 hs⟩⟩
theorem RunAt.put_answers (h : RunAt w base X K q r) {A : Option Addr} {n c : Nat} {xs : List Int} (hx : Sl w q.S A n c xs) : RunAt (w.setCell ⟨X, 13, none⟩ (.slice A n c)) base X K { q with Aa := A, na := n, ca := c } { r with answers := xs } := by
  have hk : ∀ b, b ≠ X → (w.setCell ⟨X, 13, none⟩ (.slice A n c)).heap[b]? = w.heap[b]? := fun b hb => Below.heap_setCell w _ _ b (fun e => hb e)
  have hs : w.heap.size ≤ (w.setCell ⟨X, 13, none⟩ (.slice A n c)).heap.size := by simp
  have hS : ∀ b, q.S b → b ≠ X := fun b hb => (not_mine (h.dS b hb).1).1
  exact ⟨h.hX, by rw [row_setCell h.blk]; rfl, h.cells.keep (hk _ (Ne.symm h.d0)), h.first.keep (hk _ (Ne.symm h.d1)),
    h.args.keep hs (fun b hb _ => hk b (hS b hb)), h.saved.keep hs (fun b hb _ => hk b (hS b hb)), h.blocks.keep hs (fun b hb _ => hk b (hS b hb)),
    h.mem.keep hs (fun b hb _ => hb.elim) (fun g hg => hk g (h.dm g hg).1), hx.keep hs (fun b hb _ => hk b (hS b hb)),
    h.calls.keep hs (fun b hb _ => hk b (not_mine (h.dSo b hb).1).1) (fun g hg => hk g (h.dc g hg).1), h.hbc, h.hbf, h.d0, h.d1, h.d2, h.dm, h.dc, fun b hb => ⟨(h.dS b hb).1, Nat.lt_of_lt_of_le (h.dS b hb).2 hs⟩,
    fun b hb => ⟨(h.dSo b hb).1, Nat.lt_of_lt_of_le (h.dSo b hb).2 hs⟩⟩
/-- the map is written -/
theorem RunAt.put_cells (h : RunAt w base X K q r) {K' : Nat} {f : Loc → Option Int} (hg : w.grownBy w' (some q.bc)) (hf : CMap w' q.bc K' f) (hK : K ≤ K') : RunAt w' base X K' q { r with cells := f } := by
  have hk : ∀ b, b < w.heap.size → b ≠ q.bc → w'.heap[b]? = w.heap[b]? := fun b hl hb => hg.block b hl (fun e => hb (Option.some.inj e))
  have hs := hg.size
  have hS : ∀ b, q.S b → b ≠ q.bc := fun b hb => (not_mine (h.dS b hb).1).2.1
  exact ⟨h.hX, (hk _ h.lt h.d0).trans h.blk, hf, (h.first.keep (hk _ h.first.lt (Ne.symm h.d2))).mono hK,
    h.args.keep hs (fun b hb hl => hk b hl (hS b hb)), h.saved.keep hs (fun b hb hl => hk b hl (hS b hb)), h.blocks.keep hs (fun b hb hl => hk b hl (hS b hb)),
    h.mem.keep hs (fun b hb _ => hb.elim) (fun g hg => hk g (h.mem.below_ g hg).2 (h.dm g hg).2.1), h.answers.keep hs (fun b hb hl => hk b hl (hS b hb)),
    h.calls.keep hs (fun b hb hl => hk b hl (not_mine (h.dSo b hb).1).2.1) (fun g hg => hk g (h.calls.below_ g hg).2 (h.dc g hg).2.1), h.hbc, h.hbf, h.d0, h.d1, h.d2, h.dm, h.dc, fun b hb => ⟨(h.dS b hb).1, Nat.lt_of_lt_of_le (h.dS b hb).2 hs⟩,
    fun b hb => ⟨(h.dSo b hb).1, Nat.lt_of_lt_of_le (h.dSo b hb).2 hs⟩⟩
/-- a word is written -/
theorem RunAt.put_mem (h : RunAt w base X K q r) {g n c i : Nat} {x y : Int} (hv : q.vm = .slice (some ⟨g, 0, none⟩) n c) (hx : r.mem[i]? = some x) (hy : InI y) : RunAt (w.setCell ⟨g, i, none⟩ (.int .i64 y)) base X K q { r with mem := r.mem.set i y } := by
  have hgb : q.vm.ownBlock = some g := by rw [hv]; rfl
  have hd := h.dm g hgb
  have hk : ∀ b, b ≠ g → (w.setCell ⟨g, i, none⟩ (.int .i64 y)).heap[b]? = w.heap[b]? := fun b hb => Below.heap_setCell w _ _ b (fun e => hb e)
  have hs : w.heap.size ≤ (w.setCell ⟨g, i, none⟩ (.int .i64 y)).heap.size := by simp
  have hS : ∀ b, q.S b → b ≠ g := fun b hb e => (not_mine (h.dS b hb).1).2.2.2.1 (by rw [hgb, e])
  have hm := h.mem
  rw [hv] at hm
  have hm' := hm.set (i := i) (j := 0) (y := y) (v := .int .i64 y) hx (by decide) (fun us hu => by obtain ⟨rfl, _⟩ := hu; exact ⟨rfl, hy⟩)
  have e0 : i * Rep.size Int + 0 = i := by show i * 1 + 0 = i; omega
  rw [e0] at hm'
  exact ⟨h.hX, (hk _ (Ne.symm hd.1)).trans h.blk, h.cells.keep (hk _ (Ne.symm hd.2.1)), h.first.keep (hk _ (Ne.symm hd.2.2.1)),
    h.args.keep hs (fun b hb _ => hk b (hS b hb)), h.saved.keep hs (fun b hb _ => hk b (hS b hb)), h.blocks.keep hs (fun b hb _ => hk b (hS b hb)),
    by rw [hv]; exact hm', h.answers.keep hs (fun b hb _ => hk b (hS b hb)),
    h.calls.keep hs (fun b hb _ => hk b (fun e => (not_mine (h.dSo b hb).1).2.2.2.1 (by rw [hgb, e]))) (fun g' hg' => hk g' (fun e => hd.2.2.2 (by rw [hg', e]))), h.hbc, h.hbf, h.d0, h.d1, h.d2, h.dm, h.dc, fun b hb => ⟨(h.dS b hb).1, Nat.lt_of_lt_of_le (h.dS b hb).2 hs⟩,
    fun b hb => ⟨(h.dSo b hb).1, Nat.lt_of_lt_of_le (h.dSo b hb).2 hs⟩⟩
/-- a call is noted -/
theorem RunAt.put_calls (h : RunAt w base X K q r) {v : Value} {So' : Nat → Prop} {l : List Call} (hg : w.grownBy w' q.vc.ownBlock) (hl : OwnL w' base 93 So' v l) (hv : v.ownBlock = q.vc.ownBlock ∨ ∃ g, v.ownBlock = some g ∧ w.heap.size ≤ g)
    (hSo : ∀ b, So' b → (q.So b ∨ (b ≠ X ∧ b ≠ q.bc ∧ b ≠ q.bf ∧ q.vm.ownBlock ≠ some b)) ∧ b < w'.heap.size) : RunAt (w'.setCell ⟨X, 14, none⟩ v) base X K { q with vc := v, So := So' } { r with calls := l } := by
  have hk : ∀ b, b < w.heap.size → b ≠ X → q.vc.ownBlock ≠ some b → (w'.setCell ⟨X, 14, none⟩ v).heap[b]? = w.heap[b]? := fun b hl hb hc =>
    (Below.heap_setCell w' _ v b (fun e => hb e)).trans (hg.block b hl (fun e => hc e.symm))
  have hs : w.heap.size ≤ (w'.setCell ⟨X, 14, none⟩ v).heap.size := by simpa using hg.size
  have hS : ∀ b, q.S b → b ≠ X ∧ q.vc.ownBlock ≠ some b := fun b hb => ⟨(not_mine (h.dS b hb).1).1, (not_mine (h.dS b hb).1).2.2.2.2⟩
  have hX0 : q.vc.ownBlock ≠ some X := fun e => (h.dc X e).1 rfl
  have hvn : ∀ b, b < w.heap.size → q.vc.ownBlock ≠ some b → v.ownBlock ≠ some b := fun b hb hc e => by
    rcases hv with hv | ⟨g, hv, hg'⟩
    · exact hc (hv ▸ e)
    · rw [hv] at e; injection e with e; omega
  have blkX : w'.heap[X]? = some (.cells (runCells q r) 104 (0, 0)) := (hg.block X h.lt (fun e => hX0 e.symm)).trans h.blk
  have hnotnew : ∀ b, w.heap.size ≤ b → b ≠ X ∧ b ≠ q.bc ∧ b ≠ q.bf ∧ q.vm.ownBlock ≠ some b := fun b hb =>
    ⟨fun e => by have := h.lt; omega, fun e => by have := h.cells.lt; omega, fun e => by have := h.first.lt; omega, fun e => by have := (h.mem.below_ b e).2; omega⟩
  refine ⟨h.hX, by rw [row_setCell blkX]; rfl, h.cells.keep (hk _ h.cells.lt (Ne.symm h.d0) (fun e => (h.dc _ e).2.1 rfl)), h.first.keep (hk _ h.first.lt (Ne.symm h.d1) (fun e => (h.dc _ e).2.2 rfl)),
    h.args.keep hs (fun b hb hl => hk b hl (hS b hb).1 (hS b hb).2), h.saved.keep hs (fun b hb hl => hk b hl (hS b hb).1 (hS b hb).2), h.blocks.keep hs (fun b hb hl => hk b hl (hS b hb).1 (hS b hb).2),
    h.mem.keep hs (fun b hb _ => hb.elim) (fun g hg => hk g (h.mem.below_ g hg).2 (h.dm g hg).1 (h.dm g hg).2.2.2), h.answers.keep hs (fun b hb hl => hk b hl (hS b hb).1 (hS b hb).2),
    hl.keep (by simp) (fun b hb _ => Below.heap_setCell w' _ v b (fun e => ?_)) (fun g hg' => Below.heap_setCell w' _ v g (fun e => ?_)), h.hbc, h.hbf, h.d0, h.d1, h.d2, ?_, ?_, ?_, ?_⟩
  · rcases (hSo b hb).1 with h1 | h1
    · exact (not_mine (h.dSo b h1).1).1 e
    · exact h1.1 e
  · have e' : g = X := e
    subst e'; exact hvn g h.lt hX0 hg'
  · intro b hb
    exact ⟨(h.dm b hb).1, (h.dm b hb).2.1, (h.dm b hb).2.2.1, hvn b (h.mem.below_ b hb).2 (h.dm b hb).2.2.2⟩
  · intro b hb
    change v.ownBlock = some b at hb
    rcases hv with hv | ⟨g, hv, hg'⟩
    · rw [hv] at hb; exact h.dc b hb
    · rw [hv] at hb; injection hb with hb; subst hb; exact ⟨(hnotnew g hg').1, (hnotnew g hg').2.1, (hnotnew g hg').2.2.1⟩
  · intro b hb
    refine ⟨?_, by have := hg.size; have := (h.dS b hb).2; simp; omega⟩
    rintro (e | e | e | e | e)
    · exact (not_mine (h.dS b hb).1).1 e
    · exact (not_mine (h.dS b hb).1).2.1 e
    · exact (not_mine (h.dS b hb).1).2.2.1 e
    · exact (not_mine (h.dS b hb).1).2.2.2.1 e
    · change v.ownBlock = some b at e
      rcases hv with hv | ⟨g, hv, hg'⟩
      · rw [hv] at e; exact (not_mine (h.dS b hb).1).2.2.2.2 e
      · rw [hv] at e; injection e with e; have := (h.dS b hb).2; omega
  · rintro b hb
    refine ⟨?_, by simpa using (hSo b hb).2⟩
    rintro (e | e | e | e | e)
    · rcases (hSo b hb).1 with h1 | h1
      · exact (not_mine (h.dSo b h1).1).1 e
      · exact h1.1 e
    · rcases (hSo b hb).1 with h1 | h1
      · exact (not_mine (h.dSo b h1).1).2.1 e
      · exact h1.2.1 e
    · rcases (hSo b hb).1 with h1 | h1
      · exact (not_mine (h.dSo b h1).1).2.2.1 e
      · exact h1.2.2.1 e
    · rcases (hSo b hb).1 with h1 | h1
      · exact (not_mine (h.dSo b h1).1).2.2.2.1 e
      · exact h1.2.2.2 e
    · obtain ⟨_, _, _, h4⟩ := hl
      exact h4 b e hb
end
/-- What a step of a run leaves: all but the run's own blocks. -/
structure RunFr (q q' : RunM) (X : Nat) (w w' : World) : Prop where
  os : w'.os = w.os
  tape : w'.tape = w.tape
  output : w'.output = w.output
  size : w.heap.size ≤ w'.heap.size
  block : ∀ b, b < w.heap.size → ¬ mineB q X b → w'.heap[b]? = w.heap[b]?
  mine : ∀ b, mineB q' X b → mineB q X b ∨ w.heap.size ≤ b
section
variable {w w' w'' : World} {base X K : Nat} {q q' q'' : RunM} {r : RunS}
theorem RunFr.of_below (h : Below w.heap.size w w') : RunFr q q X w w' := ⟨h.os, h.tape, h.output, h.size, fun b hb _ => h.block b hb, fun _ h => .inl h⟩
theorem RunFr.refl : RunFr q q X w w := RunFr.of_below (Below.refl _ _)
theorem RunFr.trans (h : RunFr q q' X w w') (h' : RunFr q' q'' X w' w'') : RunFr q q'' X w w'' :=
  ⟨h'.os.trans h.os, h'.tape.trans h.tape, h'.output.trans h.output, Nat.le_trans h.size h'.size, fun b hb hm => (h'.block b (Nat.lt_of_lt_of_le hb h.size) (fun e => by
    rcases h.mine b e with e | e
    · exact hm e
    · omega)).trans (h.block b hb hm), fun b hb => by
    rcases h'.mine b hb with e | e
    · exact h.mine b e
    · exact .inr (Nat.le_trans h.size e)⟩
theorem RunFr.ext (h : RunFr q q' X w w') (u : Ext) : RunFr q q' X w (w'.ext u) := h.trans (RunFr.of_below (Below.of_ext w' u (Nat.le_refl _)))
theorem RunFr.put (j : Nat) (v : Value) (hq : ∀ b, mineB q' X b → mineB q X b) : RunFr q q' X w (w.setCell ⟨X, j, none⟩ v) :=
  ⟨rfl, rfl, rfl, by simp, fun b _ hm => Below.heap_setCell w _ v b (fun e => hm (.inl e)), fun b hb => .inl (hq b hb)⟩
theorem RunFr.set_mem {g j : Nat} {v : Value} (hg : q.vm.ownBlock = some g) : RunFr q q X w (w.setCell ⟨g, j, none⟩ v) :=
  ⟨rfl, rfl, rfl, by simp, fun b _ hm => Below.heap_setCell w _ v b (fun e => hm (.inr (.inr (.inr (.inl (by rw [hg, show b = g from e])))))), fun b hb => .inl hb⟩
theorem RunFr.grown {row : Option Nat} (hg : w.grownBy w' row) (hr : ∀ b, row = some b → mineB q X b) : RunFr q q X w w' :=
  ⟨hg.os, hg.tape, hg.output, hg.size, fun b hb hm => hg.block b hb (fun e => hm (hr b e.symm)), fun b hb => .inl hb⟩
theorem RunFr.calls {v : Value} {So' : Nat → Prop} (hg : w.grownBy w' q.vc.ownBlock) (hv : v.ownBlock = q.vc.ownBlock ∨ ∃ g, v.ownBlock = some g ∧ w.heap.size ≤ g) : RunFr q { q with vc := v, So := So' } X w (w'.setCell ⟨X, 14, none⟩ v) :=
  RunFr.calls.trans' (RunFr.grown (q := q) (X := X) hg (fun b hb => .inr (.inr (.inr (.inr hb))))) hv
where
  trans' {w w' : World} {v : Value} {So' : Nat → Prop} {q : RunM} {X : Nat} (h : RunFr q q X w w') (hv : v.ownBlock = q.vc.ownBlock ∨ ∃ g, v.ownBlock = some g ∧ w.heap.size ≤ g) : RunFr q { q with vc := v, So := So' } X w (w'.setCell ⟨X, 14, none⟩ v) :=
    ⟨h.os, h.tape, h.output, by simpa using h.size, fun b hb hm => (Below.heap_setCell w' _ v b (fun e => hm (.inl e))).trans (h.block b hb hm), fun b hb => by
      rcases hb with e | e | e | e | e
      · exact .inl (.inl e)
      · exact .inl (.inr (.inl e))
      · exact .inl (.inr (.inr (.inl e)))
      · exact .inl (.inr (.inr (.inr (.inl e))))
      · change v.ownBlock = some b at e
        rcases hv with hv | ⟨g, hv, hg⟩
        · exact .inl (.inr (.inr (.inr (.inr (hv ▸ e)))))
        · rw [hv] at e; injection e with e; subst e; exact .inr hg⟩
theorem RunAt.mine_base (h : RunAt w base X K q r) {b : Nat} (hb : mineB q X b) : base ≤ b := by
  rcases hb with e | e | e | e | e
  · rw [e]; exact h.hX
  · rw [e]; exact h.hbc
  · rw [e]; exact h.hbf
  · exact (h.mem.below_ b e).1
  · exact (h.calls.below_ b e).1
theorem RunFr.below (h : RunFr q q' X w w') (hr : RunAt w base X K q r) : Below base w w' :=
  ⟨h.os, h.tape, h.output, h.size, fun b hb => h.block b (by have := hr.hX; have := hr.lt; omega) (fun e => by have := hr.mine_base e; omega)⟩
end
theorem at9_any (w : World) (base X K : Nat) (q : RunM) (r : RunS) (h : RunAt w base X K q r) : Calls Try.prog 18 #[.pointer (some ⟨X, 0, none⟩)] w (fun e w' => e = .returned (.tuple #[.int .i64 r.block, .int .i64 r.ins]) ∧ ∃ u : Ext, w' = w.ext u) := by
  have k1 := h.k1; have k2 := h.k2
  have hlt := h.lt
  clear h
  go_enter Try.func18, Try.ntmps18
  go_wp2_with fail
  refine wp_region_ext (by kernel_rfl) (by kernel_rfl) ?_
  repeat (any_goals (first | go_big_quiet_step ((fail)) | quiet_step ((fail))))
  refine wpQuiet_nil ?_
  rintro _ ⟨uq, rfl⟩
  go_wp2_with fail
  go_ret2
  exact ⟨rfl, _, rfl⟩
theorem loc9_any (w : World) (base X K : Nat) (q : RunM) (r : RunS) (h : RunAt w base X K q r) (l : Loc) (hl : InI l.n) : Calls Try.prog 22 #[.pointer (some ⟨X, 0, none⟩), .agg #[.bool l.slot, .int .i64 l.n]] w (fun e w' => e = .returned (.tuple #[.int .i64 ((r.cells l).getD 0), .bool (r.cells l).isSome]) ∧ ∃ u : Ext, w' = w.ext u) := by
  have hlt := h.lt
  have HC := hide h.cells
  have k0 := h.k0
  clear h
  go_enter Try.func22, Try.ntmps22
  go_wp2_with fail
  have hq : ∀ u : Ext, (Instr.lookup 97 (.map (some q.bc)) (.agg #[.bool l.slot, .int .i64 l.n]) true).run Try.prog ((w.alloc (.cells #[.bool l.slot, .int .i64 l.n] 70)).ext u) = .ok (.tuple #[.int .i64 ((r.cells l).getD 0), .bool (r.cells l).isSome]) ((w.alloc (.cells #[.bool l.slot, .int .i64 l.n] 70)).ext u) := fun u =>
    MapP.getOk (K := locK) (E := cellE) ((HC.out.alloc _).ext u) Try.underlying97 hl
  refine wp_region_ext (by kernel_rfl) (by kernel_rfl) ?_
  repeat (any_goals (first | go_big_quiet_step ((fail)) | quiet_step ((fail))))
  refine wpQuiet_nil ?_
  rintro _ ⟨uq, rfl⟩
  go_wp2_with fail
  go_ret2
  exact ⟨rfl, Below.to_ext (by repeat (first | exact Below.refl _ _ | assumption | refine Below.alloc ?_ (by simp [size_ext]; try omega) _ | refine Below.ext ?_ (by simp [size_ext]; try omega) _ | refine Below.drew ?_ | refine Below.setCell ?_ (by simp [size_ext]; try omega) _))⟩
end Go.Proofs.Ytkjipgelbjaggaa
