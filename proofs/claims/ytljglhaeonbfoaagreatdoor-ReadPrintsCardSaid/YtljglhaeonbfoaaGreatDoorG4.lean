/- The reader of a text, where it lies in memory. Runes: what is a letter, a digit, a sign; the program's and the document's. The reader's small methods: over, fail, put. -/
import Derived.Test.YtljglhaeonbfoaaGreatDoorG1
import Derived.Test.YtljglhaeonbfoaaGreatDoorG2
import Derived.Test.YtljglhaeonbfoaaGreatDoorG3
set_option linter.unusedSimpArgs false
set_option linter.unusedVariables false
namespace Go.Proofs.YtljglhaeonbfoaaGreatDoor
open Go.RowKit
structure Ru where
 r : Int
instance : Rep Ru where
 size := 1
 is _ _ x vs := vs = [.int .i32 x.r]
 len h := by rw [h]; rfl
 keep h _ _ := h
 more h _ := h
 one h := by rw [h]; simp [Value.oneCell']
def rus (l : List Int) : List Ru := l.map Ru.mk
theorem rus_len (l : List Int) : (rus l).length = l.length := by simp [rus]
theorem rus_snoc (l : List Int) (c : Int) : rus (l ++ [c]) = rus l ++ [⟨c⟩] := by simp [rus]
structure RdM where
 tv : Value
 wv : Value
def mineR (q : RdM) (R b : Nat) : Prop := b = R ∨ q.tv.ownBlock = some b ∨ q.wv.ownBlock = some b
def rdCells (q : RdM) (st : St) : Array Value := #[.int .i64 st.line, .int .i64 st.col, .int .i64 st.state, .int .i64 st.fl, .int .i64 st.fc, q.tv, .bool false, q.wv, .int .i64 st.wrong, .int .i64 st.al, .int .i64 st.ac]
structure RdAt (w : World) (base R : Nat) (q : RdM) (st : St) : Prop where
 hR : base ≤ R
 blk : w.heap[R]? = some (.cells (rdCells q st) 175 (0, 0))
 text : OwnL w base 21 (fun _ => False) q.tv (rus st.text)
 words : OwnL w base 115 (fun _ => False) q.wv st.words
 dt : q.tv.ownBlock ≠ some R
 dw : q.wv.ownBlock ≠ some R
 dtw : ∀ g, q.tv.ownBlock = some g → q.wv.ownBlock ≠ some g
theorem row_set {w : World} {b : Nat} {cs : Array Value} {t : TypeId} (h : w.heap[b]? = some (.cells cs t (0, 0))) (j : Nat) (u : Value) : (w.setCell ⟨b, j, none⟩ u).heap[b]? = some (.cells (cs.setIfInBounds j u) t (0, 0)) := by
 show (w.heap.modify b _)[b]? = _
 rw [Array.getElem?_modify, if_pos rfl, h]; rfl
section
variable {w w' w'' : World} {base R : Nat} {q q' q'' : RdM} {st st' : St}
theorem RdAt.lt (h : RdAt w base R q st) : R < w.heap.size := (Array.getElem?_eq_some_iff.1 h.blk).1
theorem RdAt.cell (h : RdAt w base R q st) (j : Nat) : w.cell? ⟨R, j, none⟩ = (rdCells q st)[j]? := cell_of_row w R _ _ _ (0, 0) h.blk
theorem RdAt.fz (h : RdAt w base R q st) (j : Nat) : w.frozen? ⟨R, j, none⟩ = false := by simp [World.frozen?, h.blk]
theorem RdAt.k0 (h : RdAt w base R q st) : w.cell? ⟨R, 0, none⟩ = some (.int .i64 st.line) := h.cell 0
theorem RdAt.k1 (h : RdAt w base R q st) : w.cell? ⟨R, 1, none⟩ = some (.int .i64 st.col) := h.cell 1
theorem RdAt.k2 (h : RdAt w base R q st) : w.cell? ⟨R, 2, none⟩ = some (.int .i64 st.state) := h.cell 2
theorem RdAt.k3 (h : RdAt w base R q st) : w.cell? ⟨R, 3, none⟩ = some (.int .i64 st.fl) := h.cell 3
theorem RdAt.k4 (h : RdAt w base R q st) : w.cell? ⟨R, 4, none⟩ = some (.int .i64 st.fc) := h.cell 4
theorem RdAt.k5 (h : RdAt w base R q st) : w.cell? ⟨R, 5, none⟩ = some q.tv := h.cell 5
theorem RdAt.k7 (h : RdAt w base R q st) : w.cell? ⟨R, 7, none⟩ = some q.wv := h.cell 7
theorem RdAt.k8 (h : RdAt w base R q st) : w.cell? ⟨R, 8, none⟩ = some (.int .i64 st.wrong) := h.cell 8
theorem RdAt.k9 (h : RdAt w base R q st) : w.cell? ⟨R, 9, none⟩ = some (.int .i64 st.al) := h.cell 9
theorem RdAt.k10 (h : RdAt w base R q st) : w.cell? ⟨R, 10, none⟩ = some (.int .i64 st.ac) := h.cell 10
theorem RdAt.keepB (h : RdAt w base R q st) (hs : w.heap.size ≤ w'.heap.size) (hk : ∀ b, b < w.heap.size → mineR q R b → w'.heap[b]? = w.heap[b]?) : RdAt w' base R q st :=
 ⟨h.hR, (hk _ h.lt (.inl rfl)).trans h.blk, h.text.keep hs (fun _ hb _ => hb.elim) (fun g hg => hk g (h.text.below_ g hg).2 (.inr (.inl hg))), h.words.keep hs (fun _ hb _ => hb.elim) (fun g hg => hk g (h.words.below_ g hg).2 (.inr (.inr hg))), h.dt, h.dw, h.dtw⟩
theorem RdAt.keep (h : RdAt w base R q st) (hb : Below w.heap.size w w') : RdAt w' base R q st := h.keepB hb.size fun b hl _ => hb.block b hl
theorem RdAt.ext (h : RdAt w base R q st) (u : Ext) : RdAt (w.ext u) base R q st := h.keep (Below.of_ext w u (Nat.le_refl _))
theorem RdAt.alloc (h : RdAt w base R q st) (o : Obj) : RdAt (w.alloc o) base R q st := h.keep ((Below.refl _ _).alloc (Nat.le_refl _) _)
theorem RdAt.drew (h : RdAt w base R q st) : RdAt w.drew base R q st := h.keep ((Below.refl _ _).drew)
theorem RdAt.put_ (h : RdAt w base R q st) {j : Nat} {v : Value} (hc : (rdCells q st).setIfInBounds j v = rdCells q st') (e1 : st'.text = st.text) (e2 : st'.words = st.words) : RdAt (w.setCell ⟨R, j, none⟩ v) base R q st' :=
 ⟨h.hR, by rw [row_set h.blk, hc], by rw [e1]; exact h.text.setCell (p := ⟨R, j, none⟩) (fun h => h) h.dt v, by rw [e2]; exact h.words.setCell (p := ⟨R, j, none⟩) (fun h => h) h.dw v, h.dt, h.dw, h.dtw⟩
theorem RdAt.put_words (h : RdAt w base R q st) {v : Value} {l : List Word} (hg : w.grownBy w' q.wv.ownBlock) (hl : OwnL w' base 115 (fun _ => False) v l) (hv : v.ownBlock = q.wv.ownBlock ∨ ∃ g, v.ownBlock = some g ∧ w.heap.size ≤ g) :
  RdAt (w'.setCell ⟨R, 7, none⟩ v) base R { q with wv := v } { st with words := l } := by
 have hvR : v.ownBlock ≠ some R := fun e => by
  rcases hv with hv | ⟨g, hv, hg'⟩
  ·exact h.dw (hv ▸ e)
  ·rw [hv] at e; injection e with e; have := h.lt; omega
 have blkR : w'.heap[R]? = some (.cells (rdCells q st) 175 (0, 0)) := (hg.block R h.lt (fun e => h.dw e.symm)).trans h.blk
 refine ⟨h.hR, by rw [row_set blkR]; rfl, (h.text.keep hg.size (fun _ hb _ => hb.elim) (fun g hg' => hg.block g (h.text.below_ g hg').2 (fun e => h.dtw g hg' e.symm))).setCell (p := ⟨R, 7, none⟩) (fun h => h) h.dt v,
  hl.setCell (p := ⟨R, 7, none⟩) (fun h => h) hvR v, h.dt, hvR, fun g hg' e => ?_⟩
 rcases hv with hv | ⟨g', hv, hg''⟩
 ·exact h.dtw g hg' (by rw [← hv]; exact e)
 ·change v.ownBlock = some g at e
  rw [hv] at e; injection e with e; subst e
  have := (h.text.below_ _ hg').2; omega
theorem RdAt.put_text (h : RdAt w base R q st) {v : Value} {l : List Int} {row : Option Nat} (hg : w.grownBy w' row) (hrow : ∀ g, row = some g → q.tv.ownBlock = some g) (hl : OwnL w' base 21 (fun _ => False) v (rus l)) (hvR : v.ownBlock ≠ some R) (hvw : ∀ g, v.ownBlock = some g → q.wv.ownBlock ≠ some g) :
  RdAt (w'.setCell ⟨R, 5, none⟩ v) base R { q with tv := v } { st with text := l } := by
 have blkR : w'.heap[R]? = some (.cells (rdCells q st) 175 (0, 0)) := (hg.block R h.lt (fun e => h.dt (hrow R e.symm))).trans h.blk
 exact ⟨h.hR, by rw [row_set blkR]; rfl, hl.setCell (p := ⟨R, 5, none⟩) (fun h => h) hvR v,
  (h.words.keep hg.size (fun _ hb _ => hb.elim) (fun g hg' => hg.block g (h.words.below_ g hg').2 (fun e => h.dtw g (hrow g e.symm) hg'))).setCell (p := ⟨R, 5, none⟩) (fun h => h) h.dw v, hvR, h.dw, hvw⟩
theorem RdAt.mine_cells (h : RdAt w base R q st) {b : Nat} (hb : mineR q R b) : base ≤ b ∧ ∃ c t f, w.heap[b]? = some (.cells c t f) := by
 rcases hb with rfl | e | e
 ·exact ⟨h.hR, _, _, _, h.blk⟩
 ·refine ⟨(h.text.below_ b e).1, ?_⟩
  obtain ⟨vals, ⟨_, hr⟩, _⟩ := h.text
  rcases hr with ⟨e', _⟩ | ⟨g, cap, cur, e', _, hg, _⟩
  ·rw [e'] at e; simp [Value.ownBlock] at e
  ·rw [e'] at e; simp [Value.ownBlock] at e; subst e; exact ⟨_, _, _, hg⟩
 ·refine ⟨(h.words.below_ b e).1, ?_⟩
  obtain ⟨vals, ⟨_, hr⟩, _⟩ := h.words
  rcases hr with ⟨e', _⟩ | ⟨g, cap, cur, e', _, hg, _⟩
  ·rw [e'] at e; simp [Value.ownBlock] at e
  ·rw [e'] at e; simp [Value.ownBlock] at e; subst e; exact ⟨_, _, _, hg⟩
end
structure RdFr (q q' : RdM) (R : Nat) (w w' : World) : Prop where
 os : w'.os = w.os
 tape : w'.tape = w.tape
 output : w'.output = w.output
 size : w.heap.size ≤ w'.heap.size
 block : ∀ b, b < w.heap.size → ¬ mineR q R b → w'.heap[b]? = w.heap[b]?
 mine : ∀ b, mineR q' R b → mineR q R b ∨ w.heap.size ≤ b
section
variable {w w' w'' : World} {base R : Nat} {q q' q'' : RdM} {st st' : St}
theorem RdFr.of_below (h : Below w.heap.size w w') : RdFr q q R w w' := ⟨h.os, h.tape, h.output, h.size, fun b hb _ => h.block b hb, fun _ h => .inl h⟩
theorem RdFr.refl : RdFr q q R w w := RdFr.of_below (Below.refl _ _)
theorem RdFr.trans (h : RdFr q q' R w w') (h' : RdFr q' q'' R w' w'') : RdFr q q'' R w w'' :=
 ⟨h'.os.trans h.os, h'.tape.trans h.tape, h'.output.trans h.output, Nat.le_trans h.size h'.size, fun b hb hm => (h'.block b (Nat.lt_of_lt_of_le hb h.size) (fun e => by
  rcases h.mine b e with e | e
  ·exact hm e
  ·omega)).trans (h.block b hb hm), fun b hb => by
  rcases h'.mine b hb with e | e
  ·exact h.mine b e
  ·exact .inr (Nat.le_trans h.size e)⟩
theorem RdFr.put (j : Nat) (v : Value) : RdFr q q R w (w.setCell ⟨R, j, none⟩ v) :=
 ⟨rfl, rfl, rfl, by simp, fun b _ hm => Below.heap_setCell w _ v b (fun e => hm (.inl e)), fun b hb => .inl hb⟩
theorem RdFr.grown {row : Option Nat} (hg : w.grownBy w' row) (hr : ∀ b, row = some b → mineR q R b) : RdFr q q R w w' :=
 ⟨hg.os, hg.tape, hg.output, hg.size, fun b hb hm => hg.block b hb (fun e => hm (hr b e.symm)), fun b hb => .inl hb⟩
theorem RdFr.swap (h : RdFr q q R w w') (j : Nat) (v : Value) (hm : ∀ b, mineR q' R b → mineR q R b ∨ w.heap.size ≤ b) : RdFr q q' R w (w'.setCell ⟨R, j, none⟩ v) :=
 ⟨h.os, h.tape, h.output, by simpa using h.size, fun b hb hn => (Below.heap_setCell w' _ v b (fun e => hn (.inl e))).trans (h.block b hb hn), hm⟩
theorem RdFr.below (h : RdFr q q' R w w') (hr : RdAt w base R q st) : Below base w w' :=
 ⟨h.os, h.tape, h.output, h.size, fun b hb => h.block b (by have := hr.hR; have := hr.lt; omega) (fun e => by have := (hr.mine_cells e).1; omega)⟩
theorem RdFr.other (h : RdFr q q' R w w') (hr : RdAt w base R q st) {k : Nat} {o : Obj} (hk : w.heap[k]? = some o) (ho : ∀ c t f, o ≠ .cells c t f) : w'.heap[k]? = some o := by
 rw [h.block k (Array.getElem?_eq_some_iff.1 hk).1 (fun e => by
  obtain ⟨_, c, t, f, h2⟩ := hr.mine_cells e
  rw [hk] at h2; injection h2 with h2; exact ho c t f h2)]
 exact hk
end
def RdP (base R : Nat) (q : RdM) (w : World) (st' : St) (e : Ending) (w' : World) : Prop := e = .returned (.tuple #[]) ∧ ∃ q', RdAt w' base R q' st' ∧ RdFr q q' R w w'
theorem RdP.same {base R : Nat} {q : RdM} {w w' : World} {st' : St} (h : RdAt w' base R q st') (f : RdFr q q R w w') : RdP base R q w st' (.returned (.tuple #[])) w' := ⟨rfl, q, h, f⟩
end Go.Proofs.YtljglhaeonbfoaaGreatDoor
namespace Go.Proofs.YtljglhaeonbfoaaGreatDoor
open Go.RowKit
set_option maxHeartbeats 4000000 in
theorem letter_any (r : Int) (w : World) : Calls Tryz.prog 174 #[.int .i32 r] w (Ret (.bool (isL r)) w) := by
 by_cases h1 : r = 95
 ·subst h1
  go_enter Tryz.func174, Tryz.ntmps174
  go_wp2
  go_ret
  exact ⟨rfl, rfl⟩
 ·by_cases h2 : 97 ≤ r <;> by_cases h3 : r ≤ 122 <;> by_cases h4 : 945 ≤ r <;> by_cases h5 : r ≤ 969
  all_goals (try (exfalso; omega))
  all_goals go_enter Tryz.func174, Tryz.ntmps174
  all_goals go_wp2
  all_goals go_ret
  all_goals first | exact Ret.b (Eq.symm (isL_iff.2 (by omega))) | exact Ret.b (Eq.symm (isL_off (by omega)))
theorem digit_any (r : Int) (w : World) : Calls Tryz.prog 175 #[.int .i32 r] w (Ret (.bool (isD r)) w) := by
 by_cases h2 : 48 ≤ r <;> by_cases h3 : r ≤ 57
 all_goals (try (exfalso; omega))
 all_goals go_enter Tryz.func175, Tryz.ntmps175
 all_goals go_wp2
 all_goals go_ret
 all_goals first | exact Ret.b (Eq.symm (isD_iff.2 (by omega))) | exact Ret.b (Eq.symm (isD_off (by omega)))
theorem isS_off {r : Int} (h : ¬ (r = 61 ∨ r = 44 ∨ r = 58 ∨ r = 40 ∨ r = 41 ∨ r = 91 ∨ r = 93 ∨ r = 43 ∨ r = 8594 ∨ r = 8592 ∨ r = 183)) : isS r = false := by
 rw [← Bool.not_eq_true, isS_iff]; exact h
theorem sign_any (r : Int) (w : World) : Calls Tryz.prog 189 #[.int .i32 r] w (Ret (.bool (isS r)) w) := by
 by_cases h : r = 61 ∨ r = 44 ∨ r = 58 ∨ r = 40 ∨ r = 41 ∨ r = 91 ∨ r = 93 ∨ r = 43 ∨ r = 8594 ∨ r = 8592 ∨ r = 183
 ·rcases h with rfl | rfl | rfl | rfl | rfl | rfl | rfl | rfl | rfl | rfl | rfl
  all_goals go_enter Tryz.func189, Tryz.ntmps189
  all_goals go_wp2
  all_goals go_ret
  all_goals exact ⟨rfl, rfl⟩
 ·have HS := hide (isS_off h)
  have n61 : (r == 61) = false := by simp only [beq_eq_false_iff_ne]; omega
  have n44 : (r == 44) = false := by simp only [beq_eq_false_iff_ne]; omega
  have n58 : (r == 58) = false := by simp only [beq_eq_false_iff_ne]; omega
  have n40 : (r == 40) = false := by simp only [beq_eq_false_iff_ne]; omega
  have n41 : (r == 41) = false := by simp only [beq_eq_false_iff_ne]; omega
  have n91 : (r == 91) = false := by simp only [beq_eq_false_iff_ne]; omega
  have n93 : (r == 93) = false := by simp only [beq_eq_false_iff_ne]; omega
  have n43 : (r == 43) = false := by simp only [beq_eq_false_iff_ne]; omega
  have n8594 : (r == 8594) = false := by simp only [beq_eq_false_iff_ne]; omega
  have n8592 : (r == 8592) = false := by simp only [beq_eq_false_iff_ne]; omega
  have n183 : (r == 183) = false := by simp only [beq_eq_false_iff_ne]; omega
  clear h
  go_enter Tryz.func189, Tryz.ntmps189
  go_wp2
  go_ret
  exact Ret.b HS.out.symm
end Go.Proofs.YtljglhaeonbfoaaGreatDoor
namespace Go.Proofs.YtljglhaeonbfoaaGreatDoor
open Go.RowKit
theorem over_any (w : World) (base R : Nat) (q : RdM) (st : St) (h : RdAt w base R q st) (c : Int) (hl0 : 0 ≤ st.line) (hl1 : st.line ≤ 4611686018427387904) (hc0 : 0 ≤ st.col) (hc1 : st.col ≤ 4611686018427387904) :
  Calls Tryz.prog 134 #[.pointer (some ⟨R, 0, none⟩), .int .i32 c] w (RdP base R q w (overS c st)) := by
 have k0 := h.k0; have k1 := h.k1; have hlt := h.lt; have f0 := h.fz 0; have f1 := h.fz 1
 have HR := hide h; clear h
 cases h10 : (c == 10)
 ·have H10 := hide h10
  go_enter Tryz.func134, Tryz.ntmps134
  go_wp2
  go_end0
  have hc : c ≠ 10 := by simpa using H10.out
  have e : overS c st = { st with col := st.col + 1 } := by unfold overS; rw [if_neg hc]
  rw [e]
  exact RdP.same (HR.out.put_ rfl rfl rfl) (RdFr.put _ _)
 ·have H10 := hide h10
  go_enter Tryz.func134, Tryz.ntmps134
  go_wp2
  go_end0
  have hc : c = 10 := by simpa using H10.out
  have e : overS c st = { st with line := st.line + 1, col := 1 } := by unfold overS; rw [if_pos hc]
  rw [e]
  have a1 : RdAt (w.setCell ⟨R, 1, none⟩ (.int .i64 (st.col + 1))) base R q { st with col := st.col + 1 } := HR.out.put_ rfl rfl rfl
  have a2 : RdAt ((w.setCell ⟨R, 1, none⟩ (.int .i64 (st.col + 1))).setCell ⟨R, 0, none⟩ (.int .i64 (st.line + 1))) base R q { st with col := st.col + 1, line := st.line + 1 } := a1.put_ rfl rfl rfl
  exact RdP.same (a2.put_ rfl rfl rfl) (((RdFr.put _ _).trans (RdFr.put _ _)).trans (RdFr.put _ _))
theorem fail_any (w : World) (base R : Nat) (q : RdM) (st : St) (h : RdAt w base R q st) (e l c : Int) :
  Calls Tryz.prog 132 #[.pointer (some ⟨R, 0, none⟩), .int .i64 e, .agg #[.int .i64 l, .int .i64 c]] w (RdP base R q w (failS e l c st)) := by
 have k8 := h.k8; have k9 := h.k9; have k10 := h.k10; have hlt := h.lt; have f8 := h.fz 8; have f9 := h.fz 9; have f10 := h.fz 10
 have HR := hide h; clear h
 cases h0 : (st.wrong == 0)
 ·have H0 := hide h0
  go_enter Tryz.func132, Tryz.ntmps132
  go_wp2
  go_end0
  have hc : st.wrong ≠ 0 := by simpa using H0.out
  have e : failS e l c st = st := by unfold failS; rw [if_neg hc]
  rw [e]
  exact RdP.same (HR.out.alloc _) (RdFr.of_below (by repeat (first | exact Below.refl _ _ | assumption | refine Below.alloc ?_ (by simp [size_ext]; try omega) _ | refine Below.ext ?_ (by simp [size_ext]; try omega) _ | refine Below.drew ?_ | refine Below.setCell ?_ (by simp [size_ext]; try omega) _)))
 ·have H0 := hide h0
  have hc : st.wrong = 0 := by simpa using h0
  rw [hc] at k8 h0
  have HC := hide hc; clear hc
  go_enter Tryz.func132, Tryz.ntmps132
  go_wp2
  go_region
  all_goals go_wp2
  all_goals go_end0
  have e0 : failS e l c st = { st with wrong := e, al := l, ac := c } := by unfold failS; rw [if_pos HC.out]
  rw [e0]
  have a1 : RdAt (w.setCell ⟨R, 8, none⟩ (.int .i64 e)) base R q { st with wrong := e } := HR.out.put_ rfl rfl rfl
  have a2 : RdAt ((w.setCell ⟨R, 8, none⟩ (.int .i64 e)).setCell ⟨R, 9, none⟩ (.int .i64 l)) base R q { st with wrong := e, al := l } := a1.put_ rfl rfl rfl
  have a3 : RdAt (((w.setCell ⟨R, 8, none⟩ (.int .i64 e)).setCell ⟨R, 9, none⟩ (.int .i64 l)).setCell ⟨R, 10, none⟩ (.int .i64 c)) base R q { st with wrong := e, al := l, ac := c } := a2.put_ rfl rfl rfl
  exact RdP.same ((a3.alloc _).drew) ((((RdFr.put _ _).trans (RdFr.put _ _)).trans (RdFr.put _ _)).trans (RdFr.of_below ((Below.refl _ _).alloc (Nat.le_refl _) _).drew))
theorem info_Word : (Tryz.prog.info? 115).map (fun i => (i.zero, i.size, i.bytes)) = some (some (.agg #[.int .i64 0, .string ⟨#[]⟩, .int .i64 0, .int .i64 0, .int .i64 0]), 5, 48) := by kernel_rfl
theorem put_any (w : World) (base R : Nat) (q : RdM) (st : St) (h : RdAt w base R q st) (k n : Int) (s : ByteArray) (hk : InI k) (hn : InI n) (hs : s.size ≤ maxLen) (hfl : InI st.fl) (hfc : InI st.fc) (hlen : st.words.length ≤ 1099511627776) :
  Calls Tryz.prog 172 #[.pointer (some ⟨R, 0, none⟩), .int .i64 k, .string s, .int .i64 n] w (RdP base R q w (putS k s n st)) := by
 have k7 := h.k7; have k3 := h.k3; have k4 := h.k4; have hlt := h.lt; have f7 := h.fz 7
 obtain ⟨i0, hi, hz, hz1, hz2⟩ := info_parts info_Word
 obtain ⟨tv, wv⟩ := q
 have HI0 := hide hi; have HZ := hide hz; have HZ1 := hide hz1; have HZ2 := hide hz2
 clear hi hz hz1 hz2
 have HNW := hide (show st.words.length ≤ 1099511627776 from hlen); clear hlen
 have HR := hide h; clear h
 have HK := hide hk; have HN := hide hn; have HS := hide hs; have HL := hide hfl; have HC := hide hfc
 clear hk hn hs hfl hfc
 have hbR : base < w.heap.size := by have := HR.out.hR; omega
 simp only at k7
 go_enter Tryz.func172, Tryz.ntmps172
 go_wp2_with fail
 refine wp_region_row_last (wv.ownBlock) [20] [19, 20] 23 (by kernel_rfl) rfl rfl rfl (by kernel_rfl) (by kernel_rfl) ?_
 simp only [List.take_succ_cons, List.take_zero]
 repeat (refine flowG_known (by kernel_rfl) (fun K hK => ?_); go_simp; (first | (refine hK _ ?_; clear hK K) | (apply Exists.intro; refine ⟨fun w' => ?_, hK _ ?_⟩; (fail); clear hK K)))
 repeat (refine flowG_known0 (by kernel_rfl) (by kernel_rfl) (fun K hK => ?_); go_simp; (first | (refine hK _ ?_; clear hK K) | (apply Exists.intro; refine ⟨fun _ => ?_, hK _ ?_⟩; (fail); clear hK K)))
 refine flowG_keep [] (LitP 115 [.int .i64 k, .string s, .int .i64 n, .int .i64 st.fl, .int .i64 st.fc] 1) (by kernel_rfl) (LitP.stable_ rfl) (by kernel_rfl) ?_ ?_
 ·intro u hu
  try simp only [List.nil_append, List.cons_append, useH_f, useH_t, useH_nil]
  go_simp
  exact ⟨LitP.mk_ (us := [.int .i64 k, .string s, .int .i64 n, .int .i64 st.fl, .int .i64 st.fc]) (by rw [size_ext]), onW_row_alloc hu⟩
 refine flowG_keep [true] (PushP base 115 (fun _ => False) wv.ownBlock w.heap.size (st.words ++ [⟨k, s, n, st.fl, st.fc⟩])) (by kernel_rfl) (PushP.stable_ rfl) (by kernel_rfl) ?_ ?_
 ·intro u hu
  try simp only [List.nil_append, List.cons_append, useH_f, useH_t, useH_nil]
  intro v1 hv1
  have hRu := HR.out.ext u
  exact HeldAt.push_own (α := Word) rfl (.tmp 12) (.tmp 27) 110 rfl base 115 i0 _ 48 Tryz.underlying110 HI0.out HZ.out HZ1.out HZ2.out rfl (by decide) (fun _ => False) (fun _ => False) wv _ ⟨k, s, n, st.fl, st.fc⟩ [.int .i64 k, .string s, .int .i64 n, .int .i64 st.fl, .int .i64 st.fc] 115 rfl hRu.words (by go_simp) hv1
   (Word.mk_ (x := ⟨k, s, n, st.fl, st.fc⟩) HK.out HS.out HN.out HL.out HC.out) (fun _ h => h.elim) (fun g hg h => h) (fun b h => h.elim) (by have := HNW.out; omega) (by have := HNW.out; omega) (by rw [size_ext]; omega) hu
 repeat (refine flowG_known (by kernel_rfl) (fun K hK => ?_); go_simp; (first | (refine hK _ ?_; clear hK K) | (apply Exists.intro; refine ⟨fun w' => ?_, hK _ ?_⟩; (fail); clear hK K)))
 refine flowG_done [false, true] (by kernel_rfl) ?_
 intro w6 h6
 simp only [List.nil_append, List.cons_append, endH_f, endH_t, endH_nil]
 rintro v8 v9 ⟨hown9, hv9, _⟩
 have HW9 := hide hown9; have HV9 := hide hv9; have H6 := hide h6
 obtain ⟨A9, c9, rfl⟩ := hown9.form
 generalize (st.words ++ [(⟨k, s, n, st.fl, st.fc⟩ : Word)]).length = n9 at hown9 HW9 HV9 hv9 ⊢
 clear hown9 hv9 h6
 have hRne : (some R : Option Nat) ≠ wv.ownBlock := fun e => HR.out.dw e.symm
 have blk6 := hide (show w6.heap[R]? = some (.cells (rdCells ⟨tv, wv⟩ st) 175 (0, 0)) from (H6.out.block R hlt hRne).trans HR.out.blk)
 have c6 : w6.cell? ⟨R, 7, none⟩ = some wv := cell_of_row w6 _ _ _ _ (0, 0) blk6.out
 have f6 : w6.frozen? ⟨R, 7, none⟩ = false := by simp [World.frozen?, blk6.out]
 clear hRne
 go_wp2_with fail
 go_end0
 refine ⟨rfl, ⟨tv, .slice A9 n9 c9⟩, HR.out.put_words (q := ⟨tv, wv⟩) H6.out HW9.out HV9.out, (RdFr.grown (q := ⟨tv, wv⟩) H6.out (fun b hb => .inr (.inr hb))).swap 7 _ ?_⟩
 rintro b (e | e | e)
 ·exact .inl (.inl e)
 ·exact .inl (.inr (.inl e))
 ·rcases HV9.out with h | ⟨g, h, hg⟩
  ·exact .inl (.inr (.inr (by rw [← h]; exact e)))
  ·change Value.ownBlock (.slice A9 n9 c9) = some b at e
   rw [h] at e; injection e with e; subst e; exact .inr hg
end Go.Proofs.YtljglhaeonbfoaaGreatDoor
