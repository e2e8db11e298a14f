/- The reader of a text, where it lies in memory. -/
import Derived.Test.YtmlopggainkoiaaDoorLX
import Derived.Test.YtmlopggainkoiaaDoorOwn2
import Derived.Test.YtmlopggainkoiaaDoorFlow5
set_option linter.unusedSimpArgs false
set_option linter.unusedVariables false
namespace Go.Proofs.YtmlopggainkoiaaDoor
open Go.RowKit

/-- a rune, as a cell -/
structure Ru where
  r : Int
instance : Rep Ru where
  size := 1
  is _ _ x vs := vs = [.int .i32 x.r]
  len h := by rw [h]; rfl
  keep h _ _ := h
  more h _ := h
  one h := by rw [h]; simp [Value.oneCell']
def rus (l : List Int) : List Ru := l.map Ru.mk
theorem rus_len (l : List Int) : (rus l).length = l.length := by simp [rus]
theorem rus_snoc (l : List Int) (c : Int) : rus (l ++ [c]) = rus l ++ [⟨c⟩] := by simp [rus]

structure RdM where
  tv : Value
  wv : Value
def mineR (q : RdM) (R b : Nat) : Prop := b = R ∨ q.tv.ownBlock = some b ∨ q.wv.ownBlock = some b
def rdCells (q : RdM) (st : St) : Array Value := #[.int .i64 st.line, .int .i64 st.col, .int .i64 st.state, .int .i64 st.fl, .int .i64 st.fc, q.tv, .bool false, q.wv, .int .i64 st.wrong, .int .i64 st.al, .int .i64 st.ac]
structure RdAt (w : World) (base R : Nat) (q : RdM) (st : St) : Prop where
  hR : base ≤ R
  blk : w.heap[R]? = some (.cells (rdCells q st) 70 (0, 0))
  text : OwnL w base 21 (fun _ => False) q.tv (rus st.text)
  words : OwnL w base 31 (fun _ => False) q.wv st.words
  dt : q.tv.ownBlock ≠ some R
  dw : q.wv.ownBlock ≠ some R
  dtw : ∀ g, q.tv.ownBlock = some g → q.wv.ownBlock ≠ some g
theorem row_set {w : World} {b : Nat} {cs : Array Value} {t : TypeId} (h : w.heap[b]? = some (.cells cs t (0, 0))) (j : Nat) (u : Value) : (w.setCell ⟨b, j, none⟩ u).heap[b]? = some (.cells (cs.setIfInBounds j u) t (0, 0)) := by
  show (w.heap.modify b _)[b]? = _
  rw [Array.getElem?_modify, if_pos rfl, h]; rfl
section
variable {w w' w'' : World} {base R : Nat} {q q' q'' : RdM} {st st' : St}
theorem RdAt.lt (h : RdAt w base R q st) : R < w.heap.size := (Array.getElem?_eq_some_iff.1 h.blk).1
theorem RdAt.cell (h : RdAt w base R q st) (j : Nat) : w.cell? ⟨R, j, none⟩ = (rdCells q st)[j]? := cell_of_row w R _ _ _ (0, 0) h.blk
theorem RdAt.fz (h : RdAt w base R q st) (j : Nat) : w.frozen? ⟨R, j, none⟩ = false := by simp [World.frozen?, h.blk]
theorem RdAt.k0 (h : RdAt w base R q st) : w.cell? ⟨R, 0, none⟩ = some (.int .i64 st.line) := h.cell 0
theorem RdAt.k1 (h : RdAt w base R q st) : w.cell? ⟨R, 1, none⟩ = some (.int .i64 st.col) := h.cell 1
theorem RdAt.k2 (h : RdAt w base R q st) : w.cell? ⟨R, 2, none⟩ = some (.int .i64 st.state) := h.cell 2
theorem RdAt.k3 (h : RdAt w base R q st) : w.cell? ⟨R, 3, none⟩ = some (.int .i64 st.fl) := h.cell 3
theorem RdAt.k4 (h : RdAt w base R q st) : w.cell? ⟨R, 4, none⟩ = some (.int .i64 st.fc) := h.cell 4
theorem RdAt.k5 (h : RdAt w base R q st) : w.cell? ⟨R, 5, none⟩ = some q.tv := h.cell 5
theorem RdAt.k7 (h : RdAt w base R q st) : w.cell? ⟨R, 7, none⟩ = some q.wv := h.cell 7
theorem RdAt.k8 (h : RdAt w base R q st) : w.cell? ⟨R, 8, none⟩ = some (.int .i64 st.wrong) := h.cell 8
theorem RdAt.k9 (h : RdAt w base R q st) : w.cell? ⟨R, 9, none⟩ = some (.int .i64 st.al) := h.cell 9
theorem RdAt.k10 (h : RdAt w base R q st) : w.cell? ⟨R, 10, none⟩ = some (.int .i64 st.ac) := h.cell 10
theorem RdAt.keepB (h : RdAt w base R q st) (hs : w.heap.size ≤ w'.heap.size) (hk : ∀ b, b < w.heap.size → mineR q R b → w'.heap[b]? = w.heap[b]?) : RdAt w' base R q st :=
  ⟨h.hR, (hk _ h.lt (.inl rfl)).trans h.blk, h.text.keep hs (fun _ hb _ => hb.elim) (fun g hg => hk g (h.text.below_ g hg).2 (.inr (.inl hg))), h.words.keep hs (fun _ hb _ => hb.elim) (fun g hg => hk g (h.words.below_ g hg).2 (.inr (.inr hg))), h.dt, h.dw, h.dtw⟩
theorem RdAt.keep (h : RdAt w base R q st) (hb : Below w.heap.size w w') : RdAt w' base R q st := h.keepB hb.size fun b hl _ => hb.block b hl
theorem RdAt.ext (h : RdAt w base R q st) (u : Ext) : RdAt (w.ext u) base R q st := h.keep (Below.of_ext w u (Nat.le_refl _))
theorem RdAt.alloc (h : RdAt w base R q st) (o : Obj) : RdAt (w.alloc o) base R q st := h.keep ((Below.refl _ _).alloc (Nat.le_refl _) _)
theorem RdAt.drew (h : RdAt w base R q st) : RdAt w.drew base R q st := h.keep ((Below.refl _ _).drew)
theorem RdAt.drewN (h : RdAt w base R q st) (n : Nat) : RdAt (w.drewN n) base R q st := h.keepB (Nat.le_refl _) fun _ _ _ => rfl
/-- a part is written -/
theorem RdAt.put_ (h : RdAt w base R q st) {j : Nat} {v : Value} (hc : (rdCells q st).setIfInBounds j v = rdCells q st') (e1 : st'.text = st.text) (e2 : st'.words = st.words) : RdAt (w.setCell ⟨R, j, none⟩ v) base R q st' :=
  ⟨h.hR, by rw [row_set h.blk, hc], by rw [e1]; exact h.text.setCell (p := ⟨R, j, none⟩) (fun h => h) h.dt v, by rw [e2]; exact h.words.setCell (p := ⟨R, j, none⟩) (fun h => h) h.dw v, h.dt, h.dw, h.dtw⟩
/-- the words grow -/
theorem RdAt.put_words (h : RdAt w base R q st) {v : Value} {l : List Word} (hg : w.grownBy w' q.wv.ownBlock) (hl : OwnL w' base 31 (fun _ => False) v l) (hv : v.ownBlock = q.wv.ownBlock ∨ ∃ g, v.ownBlock = some g ∧ w.heap.size ≤ g) :
    RdAt (w'.setCell ⟨R, 7, none⟩ v) base R { q with wv := v } { st with words := l } := by
  have hvR : v.ownBlock ≠ some R := fun e => by
    rcases hv with hv | ⟨g, hv, hg'⟩
    · exact h.dw (hv ▸ e)
    · rw [hv] at e; injection e with e; have := h.lt; omega
  have blkR : w'.heap[R]? = some (.cells (rdCells q st) 70 (0, 0)) := (hg.block R h.lt (fun e => h.dw e.symm)).trans h.blk
  refine ⟨h.hR, by rw [row_set blkR]; rfl, (h.text.keep hg.size (fun _ hb _ => hb.elim) (fun g hg' => hg.block g (h.text.below_ g hg').2 (fun e => h.dtw g hg' e.symm))).setCell (p := ⟨R, 7, none⟩) (fun h => h) h.dt v,
    hl.setCell (p := ⟨R, 7, none⟩) (fun h => h) hvR v, h.dt, hvR, fun g hg' e => ?_⟩
  rcases hv with hv | ⟨g', hv, hg''⟩
  · exact h.dtw g hg' (by rw [← hv]; exact e)
  · change v.ownBlock = some g at e
    rw [hv] at e; injection e with e; subst e
    have := (h.text.below_ _ hg').2; omega
/-- the text grows, or begins anew -/
theorem RdAt.put_text (h : RdAt w base R q st) {v : Value} {l : List Int} {row : Option Nat} (hg : w.grownBy w' row) (hrow : ∀ g, row = some g → q.tv.ownBlock = some g) (hl : OwnL w' base 21 (fun _ => False) v (rus l)) (hvR : v.ownBlock ≠ some R) (hvw : ∀ g, v.ownBlock = some g → q.wv.ownBlock ≠ some g) :
    RdAt (w'.setCell ⟨R, 5, none⟩ v) base R { q with tv := v } { st with text := l } := by
  have blkR : w'.heap[R]? = some (.cells (rdCells q st) 70 (0, 0)) := (hg.block R h.lt (fun e => h.dt (hrow R e.symm))).trans h.blk
  exact ⟨h.hR, by rw [row_set blkR]; rfl, hl.setCell (p := ⟨R, 5, none⟩) (fun h => h) hvR v,
    (h.words.keep hg.size (fun _ hb _ => hb.elim) (fun g hg' => hg.block g (h.words.below_ g hg').2 (fun e => h.dtw g (hrow g e.symm) hg'))).setCell (p := ⟨R, 5, none⟩) (fun h => h) h.dw v, hvR, h.dw, hvw⟩
/-- What lies in the reader's own blocks are cells. -/
theorem RdAt.mine_cells (h : RdAt w base R q st) {b : Nat} (hb : mineR q R b) : base ≤ b ∧ ∃ c t f, w.heap[b]? = some (.cells c t f) := by
  rcases hb with rfl | e | e
  · exact ⟨h.hR, _, _, _, h.blk⟩
  · refine ⟨(h.text.below_ b e).1, ?_⟩
    obtain ⟨vals, ⟨_, hr⟩, _⟩ := h.text
    rcases hr with ⟨e', _⟩ | ⟨g, cap, cur, e', _, hg, _⟩
    · rw [e'] at e; simp [Value.ownBlock] at e
    · rw [e'] at e; simp [Value.ownBlock] at e; subst e; exact ⟨_, _, _, hg⟩
  · refine ⟨(h.words.below_ b e).1, ?_⟩
    obtain ⟨vals, ⟨_, hr⟩, _⟩ := h.words
    rcases hr with ⟨e', _⟩ | ⟨g, cap, cur, e', _, hg, _⟩
    · rw [e'] at e; simp [Value.ownBlock] at e
    · rw [e'] at e; simp [Value.ownBlock] at e; subst e; exact ⟨_, _, _, hg⟩
end
/-- What a step leaves: all but the reader's own blocks. -/
structure RdFr (q q' : RdM) (R : Nat) (w w' : World) : Prop where
  os : w'.os = w.os
  tape : w'.tape = w.tape
  output : w'.output = w.output
  size : w.heap.size ≤ w'.heap.size
  block : ∀ b, b < w.heap.size → ¬ mineR q R b → w'.heap[b]? = w.heap[b]?
  mine : ∀ b, mineR q' R b → mineR q R b ∨ w.heap.size ≤ b
section
variable {w w' w'' : World} {base R : Nat} {q q' q'' : RdM} {st st' : St}
theorem RdFr.of_below (h : Below w.heap.size w w') : RdFr q q R w w' := ⟨h.os, h.tape, h.output, h.size, fun b hb _ => h.block b hb, fun _ h => .inl h⟩
theorem RdFr.refl : RdFr q q R w w := RdFr.of_below (Below.refl _ _)
theorem RdFr.trans (h : RdFr q q' R w w') (h' : RdFr q' q'' R w' w'') : RdFr q q'' R w w'' :=
  ⟨h'.os.trans h.os, h'.tape.trans h.tape, h'.output.trans h.output, Nat.le_trans h.size h'.size, fun b hb hm => (h'.block b (Nat.lt_of_lt_of_le hb h.size) (fun e => by
    rcases h.mine b e with e | e
    · exact hm e
    · omega)).trans (h.block b hb hm), fun b hb => by
    rcases h'.mine b hb with e | e
    · exact h.mine b e
    · exact .inr (Nat.le_trans h.size e)⟩
theorem RdFr.put (j : Nat) (v : Value) : RdFr q q R w (w.setCell ⟨R, j, none⟩ v) :=
  ⟨rfl, rfl, rfl, by simp, fun b _ hm => Below.heap_setCell w _ v b (fun e => hm (.inl e)), fun b hb => .inl hb⟩
theorem RdFr.grown {row : Option Nat} (hg : w.grownBy w' row) (hr : ∀ b, row = some b → mineR q R b) : RdFr q q R w w' :=
  ⟨hg.os, hg.tape, hg.output, hg.size, fun b hb hm => hg.block b hb (fun e => hm (hr b e.symm)), fun b hb => .inl hb⟩
theorem RdFr.turn (h : ∀ b, mineR q' R b → mineR q R b ∨ w.heap.size ≤ b) : RdFr q q' R w w := ⟨rfl, rfl, rfl, Nat.le_refl _, fun _ _ _ => rfl, h⟩
/-- the reader takes another row, in whose world it has grown -/
theorem RdFr.swap (h : RdFr q q R w w') (j : Nat) (v : Value) (hm : ∀ b, mineR q' R b → mineR q R b ∨ w.heap.size ≤ b) : RdFr q q' R w (w'.setCell ⟨R, j, none⟩ v) :=
  ⟨h.os, h.tape, h.output, by simpa using h.size, fun b hb hn => (Below.heap_setCell w' _ v b (fun e => hn (.inl e))).trans (h.block b hb hn), hm⟩
theorem RdFr.below (h : RdFr q q' R w w') (hr : RdAt w base R q st) : Below base w w' :=
  ⟨h.os, h.tape, h.output, h.size, fun b hb => h.block b (by have := hr.hR; have := hr.lt; omega) (fun e => by have := (hr.mine_cells e).1; omega)⟩
/-- What is no cells stays. -/
theorem RdFr.other (h : RdFr q q' R w w') (hr : RdAt w base R q st) {k : Nat} {o : Obj} (hk : w.heap[k]? = some o) (ho : ∀ c t f, o ≠ .cells c t f) : w'.heap[k]? = some o := by
  rw [h.block k (Array.getElem?_eq_some_iff.1 hk).1 (fun e => by
    obtain ⟨_, c, t, f, h2⟩ := hr.mine_cells e
    rw [hk] at h2; injection h2 with h2; exact ho c t f h2)]
  exact hk
end
/-- What a method of the reader's leaves. -/
def RdP (base R : Nat) (q : RdM) (w : World) (st' : St) (e : Ending) (w' : World) : Prop := e = .returned (.tuple #[]) ∧ ∃ q', RdAt w' base R q' st' ∧ RdFr q q' R w w'
theorem RdP.same {base R : Nat} {q : RdM} {w w' : World} {st' : St} (h : RdAt w' base R q st') (f : RdFr q q R w w') : RdP base R q w st' (.returned (.tuple #[])) w' := ⟨rfl, q, h, f⟩
end Go.Proofs.YtmlopggainkoiaaDoor
