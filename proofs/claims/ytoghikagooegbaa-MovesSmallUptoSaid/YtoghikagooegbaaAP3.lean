/- Lists of numbers that lie apart: the walk of the kit's flat. -/
import Derived.Test.YtoghikagooegbaaAP1
import Derived.Deep.OwnRows
import Derived.BigGuardPart
set_option linter.unusedSimpArgs false
set_option linter.unusedVariables false
namespace Go.Proofs.Ytoghikagooegbaa
open Go.RowKit

/-- What is held all along: the lists as they lie, their rows, what lies below. -/
structure FlatAt (w0 w : World) (B : Nat) (S : Nat → Prop) (A : Option Addr) (n c : Nat) (hs : List Hdr) (f : Nat → List Int) : Prop where
  ls : Sl w S A n c hs
  rows : RowsO w B hs f
  nS : ∀ (k : Nat) (h : Hdr) (g : Nat), hs[k]? = some h → h.v.ownBlock = some g → ¬ S g
  bel : Below B w0 w
  Sb : ∀ b, S b → b < w0.heap.size
  kp : ∀ b, S b → w.heap[b]? = w0.heap[b]?
section
variable {w0 w w' : World} {B : Nat} {S : Nat → Prop} {A : Option Addr} {n c : Nat} {hs : List Hdr} {f f' : Nat → List Int}
theorem FlatAt.belowAll (h : FlatAt w0 w B S A n c hs f) (hB : B ≤ w.heap.size) (hb : Below w.heap.size w w') : FlatAt w0 w' B S A n c hs f :=
  ⟨h.ls.belowAll hb, h.rows.belowAll hb, h.nS, h.bel.trans (hb.mono hB), h.Sb, fun b hS => (hb.block b (by have := h.Sb b hS; have := h.bel.size; omega)).trans (h.kp b hS)⟩
theorem FlatAt.ext (h : FlatAt w0 w B S A n c hs f) (hB : B ≤ w.heap.size) (u : Ext) : FlatAt w0 (w.ext u) B S A n c hs f := h.belowAll hB (Below.of_ext w u (Nat.le_refl _))
theorem FlatAt.sz (h : FlatAt w0 w B S A n c hs f) : w0.heap.size ≤ w.heap.size := h.bel.size
/-- One number is written. -/
theorem FlatAt.set (F : FlatAt w0 w B S A n c hs f) {k i : Nat} {h : Hdr} (hk : hs[k]? = some h) (hi : i < h.n) (x : Int) (hx : InI x) : ∃ g, h.a = some ⟨g, 0, none⟩ ∧ g < w.heap.size ∧ w.frozen? ⟨g, i, none⟩ = false ∧ (∃ y, w.cell? ⟨g, i, none⟩ = some (.int .i64 y)) ∧ FlatAt w0 (w.setCell ⟨g, i, none⟩ (.int .i64 x)) B S A n c hs (fun j => if j = k then (f k).set i x else f j) := by
  obtain ⟨g, h1, h2, h3, h4, h5, h6, h7⟩ := F.rows.set hk hi x hx
  exact ⟨g, h1, h3, h4, h5, ⟨F.ls.setCell (F.nS k h g hk h6) _, h7, F.nS, F.bel.setCell h2 _, F.Sb, fun b hb => (Below.heap_setCell w _ _ b (fun e => F.nS k h g hk h6 (by have e : b = g := e; exact e ▸ hb))).trans (F.kp b hb)⟩⟩
/-- What is appended, to one list's row or to blocks made since. -/
theorem FlatAt.grown (F : FlatAt w0 w B S A n c hs f) {row : Option Nat} (hg : w.grownBy w' row) (hS : ∀ g, row = some g → ¬ S g) (hB : ∀ g, row = some g → B ≤ g) (hBw : B ≤ w.heap.size)
    (ho : ∀ (k : Nat) (h : Hdr) (g : Nat), hs[k]? = some h → h.v.ownBlock = some g → row = some g → OwnL w' B 3 (fun _ => False) h.v (f k)) : FlatAt w0 w' B S A n c hs f := by
  refine ⟨F.ls.keep hg.size fun b hb hlt => hg.block b hlt (fun e => hS b e.symm hb), ⟨fun k h hk => ?_, F.rows.ne⟩, F.nS, F.bel.grown hg hBw hB, F.Sb, fun b hb => (hg.block b (by have := F.Sb b hb; have := F.bel.size; omega) (fun e => hS b e.symm hb)).trans (F.kp b hb)⟩
  by_cases hr : ∃ g, h.v.ownBlock = some g ∧ row = some g
  · obtain ⟨g, h1, h2⟩ := hr
    exact ho k h g hk h1 h2
  · exact (F.rows.own k h hk).keep hg.size (fun _ hf => hf.elim) fun g hg' => hg.block g ((F.rows.own k h hk).below_ g hg').2 (fun e => hr ⟨g, hg', e.symm⟩)
end
/-- The marks that each list holds. -/
def MK (hs : List Hdr) : Nat → List Int := fun j => mkL j ((hs[j]?.map Hdr.n).getD 0)
theorem MK_at {hs : List Hdr} {k : Nat} {h : Hdr} (hk : hs[k]? = some h) : MK hs k = mkL k h.n := by unfold MK; rw [hk]; rfl
/-- Slices in a row of their own. -/
structure GsAt (w : World) (gb : Nat) (us : List Hdr) : Prop where
  row : w.heap[gb]? = some (.cells (us.map Hdr.v).toArray 52 (0, 0))
theorem row_setA {w : World} {b : Nat} {cs : Array Value} {t : TypeId} (h : w.heap[b]? = some (.cells cs t (0, 0))) (j : Nat) (u : Value) : (w.setCell ⟨b, j, none⟩ u).heap[b]? = some (.cells (cs.setIfInBounds j u) t (0, 0)) := by
  show (w.heap.modify b _)[b]? = _
  rw [Array.getElem?_modify, if_pos rfl, h]; rfl
theorem GsAt.lt {w : World} {gb : Nat} {us : List Hdr} (h : GsAt w gb us) : gb < w.heap.size := (Array.getElem?_eq_some_iff.1 h.row).1
theorem GsAt.cell {w : World} {gb k : Nat} {us : List Hdr} {u : Hdr} (h : GsAt w gb us) (hk : us[k]? = some u) : w.cell? ⟨gb, k, none⟩ = some (.slice u.a u.n u.c) := by
  rw [World.cell?, h.row]
  simp [hk]
theorem GsAt.fz {w : World} {gb : Nat} {us : List Hdr} (h : GsAt w gb us) (k : Nat) : w.frozen? ⟨gb, k, none⟩ = false := by simp [World.frozen?, h.row]
theorem GsAt.set {w : World} {gb : Nat} {us : List Hdr} (h : GsAt w gb us) (k : Nat) (u : Hdr) : GsAt (w.setCell ⟨gb, k, none⟩ u.v) gb (us.set k u) := ⟨by rw [row_setA h.row]; simp [List.map_set]⟩
theorem GsAt.keep {w w' : World} {gb : Nat} {us : List Hdr} (h : GsAt w gb us) (hb : w'.heap[gb]? = w.heap[gb]?) : GsAt w' gb us := ⟨hb.trans h.row⟩
/-- The lists, and the longer ones that the first k have been made of. -/
structure G2 (w0 w : World) (B : Nat) (S : Nat → Prop) (A : Option Addr) (n c : Nat) (hs : List Hdr) (gb B2 k : Nat) (us : List Hdr) : Prop where
  F : FlatAt w0 w B S A n c hs (MK hs)
  G : GsAt w gb us
  ul : us.length = n
  u : ∀ (j : Nat) (h : Hdr), j < k → hs[j]? = some h → ∃ u, us[j]? = some u ∧ OwnL w B 3 (fun _ => False) u.v (mkL j (h.n + 64)) ∧ (u.v.ownBlock = h.v.ownBlock ∨ ∃ g, u.v.ownBlock = some g ∧ B2 ≤ g)
  b2 : gb < B2 ∧ B2 ≤ w.heap.size ∧ w0.heap.size ≤ gb ∧ B ≤ gb
  hb : ∀ (k : Nat) (h : Hdr) (g : Nat), hs[k]? = some h → h.v.ownBlock = some g → g < gb
structure G3 (w0 w : World) (B : Nat) (S : Nat → Prop) (A : Option Addr) (n c : Nat) (hs : List Hdr) (gb B2 B3 k : Nat) (us : List Hdr) (h : Hdr) (i : Nat) (gv : Hdr) : Prop where
  g : G2 w0 w B S A n c hs gb B2 k us
  hk : hs[k]? = some h
  o : OwnL w B 3 (fun _ => False) gv.v (mkL k (h.n + i))
  ob : gv.v.ownBlock = h.v.ownBlock ∨ ∃ g, gv.v.ownBlock = some g ∧ B3 ≤ g
  ub : ∀ (j : Nat) (u : Hdr) (g : Nat), j < k → us[j]? = some u → u.v.ownBlock = some g → g < B3
  b3 : B2 ≤ B3 ∧ B3 ≤ w.heap.size
section
variable {w0 w w' : World} {B : Nat} {S : Nat → Prop} {A : Option Addr} {n c : Nat} {hs : List Hdr} {gb B2 B3 k i : Nat} {us : List Hdr} {h gv : Hdr}
theorem G2.belowAll (H : G2 w0 w B S A n c hs gb B2 k us) (hb : Below w.heap.size w w') : G2 w0 w' B S A n c hs gb B2 k us where
  F := H.F.belowAll (by have := H.b2; omega) hb
  G := H.G.keep (hb.block gb H.G.lt)
  ul := H.ul
  u := fun j h hj hh => by
    obtain ⟨u, h1, h2, h3⟩ := H.u j h hj hh
    exact ⟨u, h1, h2.keep hb.size (fun _ hf => hf.elim) fun g hg => hb.block g (h2.below_ g hg).2, h3⟩
  b2 := by have := H.b2; have := hb.size; omega
  hb := H.hb
theorem G3.belowAll (H : G3 w0 w B S A n c hs gb B2 B3 k us h i gv) (hb : Below w.heap.size w w') : G3 w0 w' B S A n c hs gb B2 B3 k us h i gv where
  g := H.g.belowAll hb
  hk := H.hk
  o := H.o.keep hb.size (fun _ hf => hf.elim) fun g hg => hb.block g (H.o.below_ g hg).2
  ob := H.ob
  ub := H.ub
  b3 := by have := H.b3; have := hb.size; omega
/-- The row that is appended to is no other's. -/
theorem G3.row_ne (H : G3 w0 w B S A n c hs gb B2 B3 k us h i gv) : (∀ g, gv.v.ownBlock = some g → g ≠ gb ∧ ¬ S g) ∧ (∀ (j : Nat) (u : Hdr) (g : Nat), j < k → us[j]? = some u → u.v.ownBlock = some g → gv.v.ownBlock ≠ some g) := by
  have hkl := (List.getElem?_eq_some_iff.1 H.hk).1
  refine ⟨fun g hg => ?_, fun j u g hj hu hg e => ?_⟩
  · rcases H.ob with e | ⟨g', e, hle⟩
    · rw [e] at hg
      have := H.g.hb k h g H.hk hg
      exact ⟨by omega, H.g.F.nS k h g H.hk hg⟩
    · rw [hg] at e
      injection e with e
      subst e
      have := H.g.b2; have := H.b3
      exact ⟨by omega, fun hs => by have := H.g.F.Sb _ hs; omega⟩
  · have h1 := H.ub j u g hj hu hg
    rcases H.ob with e' | ⟨g', e', hle⟩
    · rw [e'] at e
      have h2 := H.g.hb k h g H.hk e
      obtain ⟨hj', hjj⟩ : ∃ hj', hs[j]? = some hj' := ⟨_, List.getElem?_eq_getElem (by omega)⟩
      obtain ⟨u', hu', _, ho⟩ := H.g.u j hj' hj hjj
      rw [hu] at hu'
      injection hu' with hu'
      subst hu'
      rcases ho with ho | ⟨g2, ho, hle⟩
      · rw [hg] at ho
        exact H.g.F.rows.ne j k hj' h g hjj H.hk (by omega) ho.symm e
      · rw [hg] at ho
        injection ho with ho
        have := H.g.b2
        omega
    · rw [e] at e'
      injection e' with e'
      omega
theorem G3.push {v' : Value} (H : G3 w0 w B S A n c hs gb B2 B3 k us h i gv) (ho : OwnL w' B 3 (fun _ => False) v' (mkL k (h.n + i) ++ [markI k ((h.n + i : Nat) : Int)])) (hk' : OwnL w' B 3 (fun _ => False) gv.v (mkL k (h.n + i)))
    (hg : w.grownBy w' gv.v.ownBlock) (h5 : v'.ownBlock = gv.v.ownBlock ∨ v'.ownBlock = some w.heap.size) : ∃ gv' : Hdr, v' = gv'.v ∧ G3 w0 w' B S A n c hs gb B2 B3 k us h (i + 1) gv' := by
  obtain ⟨r1, r2⟩ := H.row_ne
  obtain ⟨A', c', e⟩ := ho.form
  refine ⟨⟨A', _, c'⟩, e, ?_⟩
  rw [← mkL_succ] at ho
  have hbw : B ≤ w.heap.size := by have := H.g.b2; have := H.g.F.sz; omega
  refine ⟨⟨H.g.F.grown hg (fun g hg => (r1 g hg).2) (fun g hg => (H.o.below_ g hg).1) hbw ?_, H.g.G.keep (hg.block gb H.g.G.lt (fun e => (r1 gb e.symm).1 rfl)), H.g.ul, fun j hj hjk hjj => ?_, by have := H.g.b2; have := hg.size; omega, H.g.hb⟩, H.hk, by show OwnL w' B _ _ (Value.slice A' _ c') _; rw [← e]; exact ho, ?_, H.ub, by have := H.b3; have := hg.size; omega⟩
  · intro k' h' g hh' hob hrow
    have hkk : k' = k := by
      refine Classical.byContradiction fun hne => ?_
      rcases H.ob with e' | ⟨g', e', hle⟩
      · rw [e'] at hrow
        exact H.g.F.rows.ne k' k h' h g hh' H.hk hne hob hrow
      · rw [hrow] at e'
        injection e' with e'
        have := H.g.hb k' h' g hh' hob; have := H.g.b2; have := H.b3
        omega
    subst hkk
    rw [H.hk] at hh'
    injection hh' with hh'
    subst hh'
    rw [MK_at H.hk]
    obtain ⟨cg, eg⟩ := hk'.own_form hrow
    have hw := H.g.F.rows.own k' h H.hk
    obtain ⟨ch, eh⟩ := hw.own_form hob
    have ow := H.o
    rw [eg] at hk' ow
    rw [eh] at hw
    have hcc := OwnL.cap_eq hw ow
    rw [eh]
    rw [MK_at H.hk, mkL_len]
    rw [mkL_len] at hk'
    exact hk'.prefix_of hcc (by omega) (mkL_take _ _ _ (by omega))
  · obtain ⟨u, hu, hou, hob⟩ := H.g.u j hj hjk hjj
    exact ⟨u, hu, hou.keep hg.size (fun _ hf => hf.elim) fun g hg' => hg.block g (hou.below_ g hg').2 (fun e => r2 j u g hjk hu hg' e.symm), hob⟩
  · rcases h5 with h5 | h5
    · rw [e] at h5
      rcases H.ob with e' | e'
      · exact .inl (h5.trans e')
      · obtain ⟨g', e1, e2⟩ := e'
        exact .inr ⟨g', h5.trans e1, e2⟩
    · rw [e] at h5
      exact .inr ⟨_, h5, by have := H.b3; omega⟩
/-- A longer list is kept. -/
theorem G3.store (H : G3 w0 w B S A n c hs gb B2 B3 k us h 64 gv) : G2 w0 (w.setCell ⟨gb, k, none⟩ gv.v) B S A n c hs gb B2 (k + 1) (us.set k gv) := by
  obtain ⟨r1, r2⟩ := H.row_ne
  have hb2 := H.g.b2
  have hkl := (List.getElem?_eq_some_iff.1 H.hk).1
  have hln := H.g.F.ls.len
  refine ⟨⟨H.g.F.ls.setCell (fun hs => by have := H.g.F.Sb _ hs; simp at this; omega) _, ⟨fun j x hj => (H.g.F.rows.own j x hj).setCell (fun e => e) (fun e => by have := H.g.hb j x _ hj e; simp at this) _, H.g.F.rows.ne⟩, H.g.F.nS, H.g.F.bel.setCell (by show B ≤ gb; omega) _, H.g.F.Sb, fun b hb => (Below.heap_setCell w _ _ b (fun e => by have := H.g.F.Sb b hb; simp at e; omega)).trans (H.g.F.kp b hb)⟩, H.g.G.set k gv, by rw [List.length_set]; exact H.g.ul, fun j hj hjk hjj => ?_, by simp; omega, H.g.hb⟩
  by_cases e : j = k
  · subst e
    rw [H.hk] at hjj
    injection hjj with hjj
    subst hjj
    refine ⟨gv, List.getElem?_set_self (by rw [H.g.ul]; omega), H.o.setCell (fun e => e) (fun e => (r1 gb e).1 rfl) _, ?_⟩
    rcases H.ob with h1 | ⟨g', h1, h2⟩
    · exact .inl h1
    · exact .inr ⟨g', h1, by have := H.b3; omega⟩
  · obtain ⟨u, hu, hou, hob⟩ := H.g.u j hj (by omega) hjj
    refine ⟨u, by rw [List.getElem?_set_ne (fun e' => e e'.symm)]; exact hu, hou.setCell (fun e => e) (fun e' => ?_) _, hob⟩
    rcases hob with h1 | ⟨g', h1, h2⟩
    · rw [h1] at e'
      have := H.g.hb j hj _ hjj e'
      simp at this
    · rw [h1] at e'
      injection e' with e'
      simp at e'
      omega
end
/-- The lists, and what the first k with more behind them are. -/
structure G4 (w0 w : World) (B : Nat) (S : Nat → Prop) (A : Option Addr) (n c : Nat) (hs : List Hdr) (gb B4 k : Nat) (us : List Hdr) : Prop where
  F : FlatAt w0 w B S A n c hs (MK hs)
  G : GsAt w gb us
  ul : us.length = n
  u : ∀ (j : Nat) (h : Hdr), j < k → hs[j]? = some h → ∃ u ys, us[j]? = some u ∧ OwnL w B 3 (fun _ => False) u.v (mkL j h.n ++ ys) ∧ (u.v.ownBlock = h.v.ownBlock ∨ ∃ g, u.v.ownBlock = some g ∧ B4 ≤ g)
  b4 : gb < B4 ∧ B4 ≤ w.heap.size ∧ w0.heap.size ≤ gb ∧ B ≤ gb
  hb : ∀ (k : Nat) (h : Hdr) (g : Nat), hs[k]? = some h → h.v.ownBlock = some g → g < gb
section
variable {w0 w w' : World} {B : Nat} {S : Nat → Prop} {A : Option Addr} {n c : Nat} {hs : List Hdr} {gb B4 k : Nat} {us : List Hdr} {h : Hdr}
theorem G4.belowAll (H : G4 w0 w B S A n c hs gb B4 k us) (hb : Below w.heap.size w w') : G4 w0 w' B S A n c hs gb B4 k us where
  F := H.F.belowAll (by have := H.b4; omega) hb
  G := H.G.keep (hb.block gb H.G.lt)
  ul := H.ul
  u := fun j h hj hh => by
    obtain ⟨u, ys, h1, h2, h3⟩ := H.u j h hj hh
    exact ⟨u, ys, h1, h2.keep hb.size (fun _ hf => hf.elim) fun g hg => hb.block g (h2.below_ g hg).2, h3⟩
  b4 := by have := H.b4; have := hb.size; omega
  hb := H.hb
/-- What is written to a block made since. -/
theorem G4.above (H : G4 w0 w B S A n c hs gb B4 k us) (hb : Below w.heap.size w w') {x : Addr} (hx : w.heap.size ≤ x.block) (v : Value) : G4 w0 (w'.setCell x v) B S A n c hs gb B4 k us :=
  H.belowAll (hb.setCell hx v)
theorem G4.push {v' : Value} {ys : List Int} (H : G4 w0 w B S A n c hs gb B4 k us) (hkn : k < n) (hk : hs[k]? = some h) (ho : OwnL w' B 3 (fun _ => False) v' (mkL k h.n ++ ys)) (hk' : OwnL w' B 3 (fun _ => False) h.v (mkL k h.n))
    (hg : w.grownBy w' h.v.ownBlock) (h5 : v'.ownBlock = h.v.ownBlock ∨ v'.ownBlock = some w.heap.size) : ∃ gv : Hdr, v' = gv.v ∧ (∃ u0 : Hdr, w'.cell? ⟨gb, k, none⟩ = some (.slice u0.a u0.n u0.c)) ∧ w'.frozen? ⟨gb, k, none⟩ = false ∧ gb < w'.heap.size ∧ G4 w0 (w'.setCell ⟨gb, k, none⟩ gv.v) B S A n c hs gb B4 (k + 1) (us.set k gv) := by
  obtain ⟨A', c', e⟩ := ho.form
  refine ⟨⟨A', _, c'⟩, e, ?_⟩
  have hb4 := H.b4
  have hbw : B ≤ w.heap.size := by have := H.F.sz; omega
  have r1 : ∀ g, h.v.ownBlock = some g → g ≠ gb ∧ ¬ S g := fun g hg => ⟨by have := H.hb k h g hk hg; omega, H.F.nS k h g hk hg⟩
  have hF : FlatAt w0 w' B S A n c hs (MK hs) := H.F.grown hg (fun g hg => (r1 g hg).2) (fun g hg => ((H.F.rows.own k h hk).below_ g hg).1) hbw (fun k' h' g hh' hob hrow => by
    have hkk : k' = k := Classical.byContradiction fun hne => H.F.rows.ne k' k h' h g hh' hk hne hob hrow
    subst hkk
    rw [hk] at hh'
    injection hh' with hh'
    subst hh'
    rw [MK_at hk]
    exact hk')
  have hG : GsAt w' gb us := H.G.keep (hg.block gb H.G.lt (fun e => (r1 gb e.symm).1 rfl))
  obtain ⟨u0, hu0⟩ : ∃ u0, us[k]? = some u0 := ⟨_, List.getElem?_eq_getElem (by rw [H.ul]; exact hkn)⟩
  refine ⟨⟨u0, hG.cell hu0⟩, hG.fz k, hG.lt, ⟨⟨hF.ls.setCell (fun hs => by have := H.F.Sb _ hs; simp at this; omega) _, ⟨fun j x hj => (hF.rows.own j x hj).setCell (fun e => e) (fun e => by have := H.hb j x _ hj e; simp at this) _, hF.rows.ne⟩, hF.nS, hF.bel.setCell (by show B ≤ gb; omega) _, hF.Sb, fun b hb => (Below.heap_setCell _ _ _ b (fun e => by have := H.F.Sb b hb; simp at e; omega)).trans (hF.kp b hb)⟩, hG.set k _, by rw [List.length_set]; exact H.ul, fun j hj hjk hjj => ?_, by have := hg.size; simp; omega, H.hb⟩⟩
  by_cases ej : j = k
  · subst ej
    rw [hk] at hjj
    injection hjj with hjj
    subst hjj
    have ho2 : OwnL w' B 3 (fun _ => False) (Value.slice A' (mkL j h.n ++ ys).length c') (mkL j h.n ++ ys) := by rw [← e]; exact ho
    rw [e] at h5
    refine ⟨⟨A', _, c'⟩, ys, List.getElem?_set_self (by rw [H.ul]; exact hkn), ho2.setCell (fun e => e) (fun e2 => ?_) _, ?_⟩
    · rcases h5 with h5 | h5
      · rw [h5] at e2
        exact (r1 _ e2).1 rfl
      · rw [h5] at e2
        injection e2 with e2
        have := H.G.lt
        simp at e2
        omega
    · rcases h5 with h5 | h5
      · exact .inl h5
      · exact .inr ⟨_, h5, by omega⟩
  · obtain ⟨u, ys', hu, hou, hob⟩ := H.u j hj (by omega) hjj
    refine ⟨u, ys', by rw [List.getElem?_set_ne (fun e' => ej e'.symm)]; exact hu, (hou.keep hg.size (fun _ hf => hf.elim) fun g hg' => hg.block g (hou.below_ g hg').2 (fun e' => ?_)).setCell (fun e => e) (fun e' => ?_) _, hob⟩
    · rcases hob with h1 | ⟨g2, h1, h2⟩
      · rw [hg'] at h1
        exact H.F.rows.ne j k hj h g hjj hk ej h1.symm e'.symm
      · rw [hg'] at h1
        injection h1 with h1
        have := H.hb k h g hk e'.symm
        omega
    · rcases hob with h1 | ⟨g', h1, h2⟩
      · rw [h1] at e'
        have := H.hb j hj _ hjj e'
        simp at this
      · rw [h1] at e'
        injection e' with e'
        simp at e'
        omega
end
theorem info_sInts : (Try.prog.info? 52).map (fun i => (i.zero, i.size, i.bytes)) = some (some (.slice none 0 0), 1, 24) := by kernel_rfl
theorem made_hdrs (n : Nat) : madeCells #[Value.slice none 0 0] n = ((List.replicate n (⟨none, 0, 0⟩ : Hdr)).map Hdr.v).toArray := by
  apply Array.toList_inj.1
  have := made_flat #[Value.slice none 0 0] n 1 rfl (by omega)
  rw [Nat.mul_one] at this
  rw [this]
  simp
theorem take_set_succ {xs : List Int} {i : Nat} {x : Int} (hi : i < xs.length) : (xs.set i x).take (i + 1) = xs.take i ++ [x] := by
  rw [List.take_add_one, List.take_set_of_le (Nat.le_refl i), List.getElem?_set_self hi]; rfl
set_option maxRecDepth 100000 in
set_option maxHeartbeats 40000000 in
theorem flatInts_any (w : World) (B : Nat) (S : Nat → Prop) (A : Option Addr) (n c : Nat) (hs : List Hdr) (f : Nat → List Int) (hF : FlatAt w w B S A n c hs f) (hB : B ≤ w.heap.size) (hn : n ≤ 1000) (hm : ∀ (k : Nat) (h : Hdr), hs[k]? = some h → h.n ≤ 1000000) :
    Calls Try.prog 48 #[.slice A n c] w (fun e w' => e = .returned (.bool true) ∧ Below B w w' ∧ ∀ b, S b → w'.heap[b]? = w.heap[b]?) := by
  have HM := hide hm; have HF0 := hide hF
  have hnA : n = 0 ∨ ∃ b off, A = some ⟨b, off, none⟩ := by
    rcases Nat.eq_zero_or_pos n with h | h
    · exact .inl h
    · obtain ⟨b, off, _, e, _⟩ := at_hdr hF.ls h; exact .inr ⟨b, off, e⟩
  have HNA := hide hnA
  have HL := hide hF.ls.len
  clear hm hF hnA
  go_enter Try.func48, Try.ntmps48
  go_wp2_with fail
  go_loopw [3] (fun a wr => ∃ (k : Nat) (f : Nat → List Int), a = .int .i64 k ∧ k ≤ n ∧ FlatAt w wr B S A n c hs f ∧ (∀ (j : Nat) (h : Hdr), j < k → hs[j]? = some h → f j = mkL j h.n)) (fun a _ => n - (intOf a).toNat)
  case atStart => exact ⟨0, f, rfl, Nat.zero_le _, HF0.out, fun j h hj => absurd hj (by omega)⟩
  case round =>
    obtain ⟨k, f1, rfl, hk, hF, hmk⟩ := hrel
    have HF := hide hF; have HMK := hide hmk
    clear hF hmk
    by_cases hlt : k < n
    · obtain ⟨b, off, h, hA, hb, hSb, hh, hc⟩ := at_hdr HF.out.ls hlt
      subst hA
      have HH := hide hh
      have hhn := HM.out k h hh
      clear hh
      go_wp2_with fail
      obtain ⟨V, hV⟩ : ∃ V, V = wr := ⟨_, rfl⟩
      subst hV
      clear hb hc
      go_loopw [4] (fun a wr => ∃ (i : Nat) (f' : Nat → List Int), a = .int .i64 i ∧ i ≤ h.n ∧ FlatAt w wr B S (some ⟨b, off, none⟩) n c hs f' ∧ (∀ (j : Nat) (h : Hdr), j < k → hs[j]? = some h → f' j = mkL j h.n) ∧ (f' k).take i = mkL k i) (fun a _ => h.n - (intOf a).toNat)
      case atStart => exact ⟨0, f1, rfl, Nat.zero_le _, HF.out, HMK.out, by simp [mkL]⟩
      case round =>
        obtain ⟨i, f2, rfl, hi, hF2, hm2, ht2⟩ := hrel
        have HF2 := hide hF2; have HM2 := hide hm2; have HT2 := hide ht2
        obtain ⟨b', off', h', hA', hb, _, hh', hc⟩ := at_hdr hF2.ls hlt
        injection hA' with hA'
        injection hA' with e1 e2
        subst e1 e2
        have eh : h' = h := by rw [HH.out] at hh'; injection hh' with e; exact e.symm
        subst eh
        have hwr : B ≤ wr.heap.size := by have := hF2.sz; omega
        clear hF2 hm2 ht2 hh'
        by_cases hli : i < h'.n
        · obtain ⟨ha, hn', hc'⟩ := h'
          simp only at hc hhn hi hli
          obtain ⟨g, ha', _⟩ := HF2.out.set HH.out hli 0 ⟨by decide, by decide⟩
          simp only at ha'
          subst ha'
          have hi9 : (i : Int) ≤ 100000000 := by omega
          have hk9 : (k : Int) ≤ 100000000 := by omega
          go_wp2_with fail
          refine wp_region_last_ext [] [] 9 (by kernel_rfl) rfl rfl rfl (by kernel_rfl) (by kernel_rfl) ?_
          simp only [List.take_succ_cons, List.take_zero]
          repeat (refine flow_known (by kernel_rfl) (fun K hK => ?_); go_simp; (first | (refine hK _ ?_; clear hK K) | (apply Exists.intro; refine ⟨fun _ => ?_, hK _ ?_⟩; ((go_at_call 66; exact Ret.retX (mark_any k i _ ⟨by omega, by omega⟩ ⟨by omega, by omega⟩))); clear hK K)))
          refine flow_done [] (by kernel_rfl) ?_
          intro u
          simp only [List.nil_append, List.cons_append, endH_f, endH_t, endH_nil]
          go_simp
          obtain ⟨W1, hW1⟩ : ∃ W', wr.ext u = W' := ⟨_, rfl⟩
          have HF3 := hide (show FlatAt w W1 B S (some ⟨b, off, none⟩) n c hs f2 by rw [← hW1]; exact HF2.out.ext hwr u)
          obtain ⟨g', ha', hgl, hfz, ⟨y, hcy⟩, hset⟩ := HF3.out.set HH.out hli (markI k i) (markI_bd (by omega) (by omega))
          simp only [Option.some.injEq, Addr.mk.injEq, and_true] at ha'
          subst ha'
          obtain ⟨W2, hW2⟩ : ∃ W', W1.setCell ⟨g, i, none⟩ (.int .i64 (markI k i)) = W' := ⟨_, rfl⟩
          rw [hW2] at hset
          have HST := hide hset
          rw [hW1]
          clear hW1 hset hc hb
          go_wp2_with fail
          have HTN := hide (show ((if k = k then (f2 k).set i (markI k i) else f2 k)).take (i + 1) = mkL k (i + 1) by
            rw [if_pos rfl, take_set_succ (by rw [HF2.out.rows.len HH.out]; exact hli), HT2.out, mkL_succ])
          clear hW2 hgl hfz hcy
          go_roundw
          case rel => exact ⟨i + 1, _, by go_num, by omega, HST.out, fun j h hj hh => by rw [if_neg (by omega)]; exact HM2.out j h hj hh, HTN.out⟩
          case measure => simp [intOf]; omega
        · have hih : i = h'.n := by omega
          have HD := hide (show f2 k = mkL k h'.n by
            have := HT2.out
            rw [hih, List.take_of_length_le (by rw [HF2.out.rows.len HH.out]; exact Nat.le_refl _)] at this
            exact this)
          obtain ⟨ha, hn', hc'⟩ := h'
          simp only at hc hhn hi hli hih
          go_wp2_with fail
          go_roundw
          case rel => exact ⟨k + 1, f2, by go_num, by omega, HF2.out, fun j h hj hh => by
            by_cases hjk : j = k
            · subst hjk
              rw [HH.out] at hh
              injection hh with hh
              subst hh
              exact HD.out
            · exact HM2.out j h (by omega) hh⟩
          case measure => simp [intOf]; omega
    · have hkn : k = n := by omega
      have HFA := hide (show FlatAt w wr B S A n c hs (MK hs) from ⟨HF.out.ls, HF.out.rows.congr fun j h hh => by rw [HMK.out j h (by have := (List.getElem?_eq_some_iff.1 hh).1; have := HL.out; omega) hh, MK_at hh], HF.out.nS, HF.out.bel, HF.out.Sb, HF.out.kp⟩)
      have hszr : w.heap.size ≤ wr.heap.size := HF.out.sz
      have HBR := hide (fun (j : Nat) (h : Hdr) (g : Nat) (hj : hs[j]? = some h) (hg : h.v.ownBlock = some g) => (HF.out.rows.lt hj hg).2)
      have hn9 : n ≤ 9223372036854775807 := by omega
      clear HMK HF
      obtain ⟨is, his, hsz, hsz1, hsz2⟩ := info_parts info_sInts
      have HIS := hide his; have HSZ := hide hsz; have HSZ1 := hide hsz1; have HSZ2 := hide hsz2
      obtain ⟨i0, hi, hz, hz1, hz2⟩ := info_parts info_int
      have HI0 := hide hi; have HZ := hide hz; have HZ1 := hide hz1; have HZ2 := hide hz2
      clear his hsz hsz1 hsz2 hi hz hz1 hz2
      obtain ⟨gb, hgb⟩ : ∃ gb, wr.heap.size = gb := ⟨_, rfl⟩
      go_wp2_with (at_make; refine wpList_make_row _ rfl _ _ 79 rfl 52 is _ Try.underlying79 HIS.out HSZ.out HSZ1.out rfl _ _ n rfl rfl (by rw [HSZ2.out]; omega) (by omega) ?_)
      obtain ⟨X, hX⟩ : ∃ W', wr.alloc (.cells (madeCells #[.slice none 0 0] n) 52) = W' := ⟨_, rfl⟩
      have HG0 := hide (show G2 w X B S A n c hs gb (gb + 1) 0 (List.replicate n ⟨none, 0, 0⟩) from
        ⟨by rw [← hX]; exact HFA.out.belowAll (by omega) ((Below.refl _ _).alloc (Nat.le_refl _) _), ⟨by rw [← hX, ← hgb, made_hdrs]; exact heap_alloc_new wr _⟩, by simp, fun j h hj => absurd hj (by omega), ⟨by omega, by rw [← hX]; simp; omega, by omega, by omega⟩, fun k h g hk hg => by rw [← hgb]; exact HBR.out k h g hk hg⟩)
      go_wp2_with fail
      have HXQ := hide hX
      clear hX hgb HFA HBR hk hlt hkn
      go_loopw [6] (fun a wr => ∃ (k : Nat) (us : List Hdr), a = .int .i64 k ∧ k ≤ n ∧ G2 w wr B S A n c hs gb (gb + 1) k us) (fun a _ => n - (intOf a).toNat)
      case atStart => exact ⟨0, _, rfl, Nat.zero_le _, by rw [HXQ.out]; exact HG0.out⟩
      case round =>
        obtain ⟨k, us, rfl, hk, hg2⟩ := hrel
        have HG := hide hg2
        clear hg2
        by_cases hlt : k < n
        · obtain ⟨b, off, h, hA, hb, hSb, hh, hc⟩ := at_hdr HG.out.F.ls hlt
          subst hA
          have HH := hide hh
          have hhn := HM.out k h hh
          clear hh
          obtain ⟨V, hV⟩ : ∃ V, V = wr := ⟨_, rfl⟩
          subst hV
          have HG3 := hide (show G3 w V B S (some ⟨b, off, none⟩) n c hs gb (gb + 1) V.heap.size k us h 0 h from
            ⟨HG.out, HH.out, by rw [Nat.add_zero, ← MK_at HH.out]; exact HG.out.F.rows.own k h HH.out, .inl rfl, fun j u g hj hu hg => by
              obtain ⟨hj', hjj⟩ : ∃ hj', hs[j]? = some hj' := ⟨_, List.getElem?_eq_getElem (by have := (List.getElem?_eq_some_iff.1 HH.out).1; omega)⟩
              obtain ⟨u', hu', ho, _⟩ := HG.out.u j hj' hj hjj
              rw [hu] at hu'
              injection hu' with hu'
              subst hu'
              exact (ho.below_ g hg).2, by have := HG.out.b2; omega⟩)
          go_wp2_with fail
          clear hb hc
          go_loopw [7, 8] (fun g a wr => ∃ (i : Nat) (gv : Hdr), g = gv.v ∧ a = .int .i64 i ∧ i ≤ 64 ∧ G3 w wr B S (some ⟨b, off, none⟩) n c hs gb (gb + 1) V.heap.size k us h i gv) (fun _ a _ => 64 - (intOf a).toNat)
          case atStart => exact ⟨0, h, rfl, rfl, by omega, HG3.out⟩
          case round =>
            obtain ⟨i, gv, rfl, rfl, hi, hg3⟩ := hrel
            have H3 := hide hg3
            have hBw : B ≤ wr.heap.size := by have := hg3.g.b2; omega
            obtain ⟨b', off', h', hA', hb, _, hh', hc⟩ := at_hdr hg3.g.F.ls hlt
            injection hA' with hA'
            injection hA' with e1 e2
            subst e1 e2
            have eh : h' = h := by rw [HH.out] at hh'; injection hh' with e; exact e.symm
            subst eh
            have hgl := hg3.o.form
            have hln : gv.n = h'.n + i := by
              obtain ⟨_, _, e⟩ := hgl
              injection e with _ e _
              rw [mkL_len] at e
              exact e
            have HLN := hide hln
            clear hg3 hh' hgl hln
            by_cases hli : i < 64
            · obtain ⟨mm, hmm⟩ : ∃ mm, markI k ((h'.n : Int) + i) = mm := ⟨_, rfl⟩
              have HMM := hide hmm
              have HMI := hide (show InI mm by rw [← hmm, show ((h'.n : Int) + i) = ((h'.n + i : Nat) : Int) from by omega]; exact markI_bd (by omega) (by omega))
              have HMA := hide (fun W => show Calls Try.prog 66 #[.int .i64 k, .int .i64 ((h'.n : Int) + i)] W (Ret (.int .i64 mm) W) from hmm ▸ mark_any k ((h'.n : Int) + i) W ⟨by omega, by omega⟩ ⟨by omega, by omega⟩)
              clear hmm
              go_wp2_with (first | (go_at_call 66; refine (HMA.out _).mono ?_; rintro e w' ⟨rfl, rfl⟩) | (at_builtin; refine wpList_pushK (wr.alloc (.cells #[.int .i64 mm] 3)) rfl (.tmp 57) (.tmp 67) 52 rfl B 3 i0 _ 8 Try.underlying52 HI0.out HZ.out HZ1.out HZ2.out rfl gv.v (mkL k (h'.n + i)) [mm] rfl (H3.out.o.alloc _) ⟨wr.heap.size, 0, none⟩ 1 1 rfl rfl (by intro y hy; simp at hy; rw [hy]; exact HMI.out) (by intro j y hj; cases j with | zero => simp at hj; subst hj; exact cell_of_row _ _ _ _ _ (0, 0) (heap_alloc_new wr _) | succ j => simp at hj) (by rw [mkL_len]; unfold maxLen; omega) (by rw [mkL_len]; omega) (by simp; omega) ?_; intro v' w' ho1 ho2 hgr h5))
              obtain ⟨gv', rfl, hg4⟩ := (H3.out.belowAll ((Below.refl _ _).alloc (Nat.le_refl _) _)).push (by rw [← HMM.out] at ho1; rw [show ((h'.n + i : Nat) : Int) = (h'.n : Int) + i from by omega]; exact ho1) ho2 hgr h5
              have H4 := hide hg4
              clear ho1 ho2 hgr h5 hg4
              go_wp2_with fail
              go_roundw
              case rel => exact ⟨i + 1, gv', rfl, by go_num, by omega, H4.out⟩
              case measure => simp [intOf]; omega
            · have hi64 : i = 64 := by omega
              subst hi64
              obtain ⟨u0, hu0⟩ : ∃ u0, us[k]? = some u0 := ⟨_, List.getElem?_eq_getElem (by rw [H3.out.g.ul]; omega)⟩
              have hcg := H3.out.g.G.cell hu0
              have hfz := H3.out.g.G.fz k
              have hgbl := H3.out.g.G.lt
              have HST := hide H3.out.store
              clear hu0
              go_wp2_with fail
              go_roundw
              case rel => exact ⟨k + 1, us.set k gv, by go_num, by omega, HST.out⟩
              case measure => simp [intOf]; omega
        · have hkn : k = n := by omega
          subst hkn
          clear HG0 hlt hk
          go_wp2_with fail
          obtain ⟨Y, hY⟩ : ∃ Y, Y = wr := ⟨_, rfl⟩
          subst hY
          clear HXQ
          go_loopw [9] (fun a wr => ∃ (j : Nat) (v : Ext), a = .int .i64 j ∧ j ≤ k ∧ wr = Y.ext v) (fun a _ => k - (intOf a).toNat)
          case atStart => exact ⟨0, _, rfl, Nat.zero_le _, (ext_refl Y).choose_spec⟩
          case round =>
            obtain ⟨j, v, rfl, hj, rfl⟩ := hrel
            by_cases hlt : j < k
            · obtain ⟨b, off, h, hA, hb, hSb, hh, hc⟩ := at_hdr HG.out.F.ls hlt
              subst hA
              obtain ⟨u, hu, hou, _⟩ := HG.out.u j h hlt hh
              have HOH := hide (show OwnL Y B 3 (fun _ => False) h.v (mkL j h.n) by rw [← MK_at hh]; exact HG.out.F.rows.own j h hh)
              have HOU := hide hou
              have hcu := HG.out.G.cell hu
              have hgbl := HG.out.G.lt
              have hhn := HM.out j h hh
              have hun : u.n = h.n + 64 := by
                obtain ⟨_, _, e⟩ := hou.form
                injection e with _ e _
                rw [mkL_len] at e
                exact e
              obtain ⟨ha, hn', hc'⟩ := h
              obtain ⟨ua, un, uc⟩ := u
              simp only at hun hc hcu hhn
              subst hun
              simp only at HOH HOU
              clear hh hu hou
              obtain ⟨Z, hZ⟩ : ∃ Z, Y.ext v = Z := ⟨_, rfl⟩
              have HZQ := hide hZ
              have zc : Z.cell? ⟨b, off + j, none⟩ = some (.slice ha hn' hc') := by rw [← hZ]; exact (cell?_ext Y v _ hb).trans hc
              have zu : Z.cell? ⟨gb, j, none⟩ = some (.slice ua (hn' + 64) uc) := by rw [← hZ]; exact (cell?_ext Y v _ hgbl).trans hcu
              have zb : b < Z.heap.size := by rw [← hZ, size_ext]; omega
              have zg : gb < Z.heap.size := by rw [← hZ, size_ext]; omega
              have ZOH := hide (show OwnL Z B 3 (fun _ => False) (.slice ha hn' hc') (mkL j hn') by rw [← hZ]; exact HOH.out.ext v)
              have ZOU := hide (show OwnL Z B 3 (fun _ => False) (.slice ua (hn' + 64) uc) (mkL j (hn' + 64)) by rw [← hZ]; exact HOU.out.ext v)
              rw [hZ]
              clear hZ hc hcu hb hgbl HOH HOU
              go_wp2_with fail
              go_loopw [10] (fun a wr => ∃ (i : Nat) (v : Ext), a = .int .i64 i ∧ i ≤ hn' + 64 ∧ wr = Z.ext v) (fun a _ => hn' + 64 - (intOf a).toNat)
              case atStart => exact ⟨0, _, rfl, Nat.zero_le _, (ext_refl Z).choose_spec⟩
              case round =>
                obtain ⟨i, v2, rfl, hi, rfl⟩ := hrel
                by_cases hli : i < hn' + 64
                · obtain ⟨X2, hX2⟩ : ∃ X, Z.ext v2 = X := ⟨_, rfl⟩
                  have HX2 := hide hX2
                  have xc : X2.cell? ⟨b, off + j, none⟩ = some (.slice ha hn' hc') := by rw [← hX2]; exact (cell?_ext Z v2 _ zb).trans zc
                  have xu : X2.cell? ⟨gb, j, none⟩ = some (.slice ua (hn' + 64) uc) := by rw [← hX2]; exact (cell?_ext Z v2 _ zg).trans zu
                  have xb : b < X2.heap.size := by rw [← hX2, size_ext]; omega
                  have xg : gb < X2.heap.size := by rw [← hX2, size_ext]; omega
                  obtain ⟨bu, ofu, mm, hua, hbu, hmm, hmi, hcm⟩ := at_int ((ZOU.out.ext v2).sl (S' := fun _ => True) (fun _ _ _ => trivial)) hli
                  rw [hX2] at hbu hcm
                  rw [mkL_at hli] at hmm
                  injection hmm with hmm
                  subst hua
                  have HMA := hide (fun W => show Calls Try.prog 66 #[.int .i64 j, .int .i64 i] W (Ret (.int .i64 mm) W) from hmm ▸ mark_any j i W ⟨by omega, by omega⟩ ⟨by omega, by omega⟩)
                  have HHX := hide (show i < hn' → ∃ bh ofh, ha = some ⟨bh, ofh, none⟩ ∧ bh < X2.heap.size ∧ X2.cell? ⟨bh, ofh + i, none⟩ = some (.int .i64 mm) from fun hlh => by
                    obtain ⟨bh, ofh, m2, hha, hbh, hm2, _, hcm2⟩ := at_int ((ZOH.out.ext v2).sl (S' := fun _ => True) (fun _ _ _ => trivial)) hlh
                    rw [hX2] at hbh hcm2
                    rw [mkL_at hlh, hmm] at hm2
                    injection hm2 with hm2
                    subst hm2
                    exact ⟨bh, ofh, hha, hbh, hcm2⟩)
                  have hmq : (mm == mm) = true := by simp
                  rw [hX2]
                  clear hX2 hmm zc zu zb zg hmi
                  by_cases hlh : i < hn'
                  · obtain ⟨bh, ofh, hha, hbh, hch⟩ := HHX.out hlh
                    subst hha
                    have hd : decide ((i : Int) < (hn' : Int)) = true := by simp; omega
                    go_wp2_with fail
                    refine wp_region_flow_ext [] [] (by kernel_rfl) rfl (by kernel_rfl) ?_
                    repeat (refine flow_known (by kernel_rfl) (fun K hK => ?_); go_simp; (first | (refine hK _ ?_; clear hK K) | (apply Exists.intro; refine ⟨fun _ => ?_, hK _ ?_⟩; ((go_at_call 66; exact Ret.retX (HMA.out _))); clear hK K)))
                    refine flow_done [] (by kernel_rfl) ?_
                    intro u6
                    simp only [List.nil_append, List.cons_append, endH_f, endH_t, endH_nil]
                    go_simp
                    go_wp2_with fail
                    go_roundw
                    case rel =>
                      obtain ⟨v3, hv3⟩ := ext_ext Z v2 u6
                      exact ⟨i + 1, v3, by go_num, by omega, by rw [← HX2.out, hv3]⟩
                    case measure => simp [intOf]; omega
                  · have hd : decide ((i : Int) < (hn' : Int)) = false := by simp; omega
                    clear HHX
                    go_wp2_with fail
                    refine wp_region_flow_ext [] [] (by kernel_rfl) rfl (by kernel_rfl) ?_
                    repeat (refine flow_known (by kernel_rfl) (fun K hK => ?_); go_simp; (first | (refine hK _ ?_; clear hK K) | (apply Exists.intro; refine ⟨fun _ => ?_, hK _ ?_⟩; ((go_at_call 66; exact Ret.retX (HMA.out _))); clear hK K)))
                    refine flow_done [] (by kernel_rfl) ?_
                    intro u6
                    simp only [List.nil_append, List.cons_append, endH_f, endH_t, endH_nil]
                    go_simp
                    go_wp2_with fail
                    go_roundw
                    case rel =>
                      obtain ⟨v3, hv3⟩ := ext_ext Z v2 u6
                      exact ⟨i + 1, v3, by go_num, by omega, by rw [← HX2.out, hv3]⟩
                    case measure => simp [intOf]; omega
                · go_wp2_with fail
                  go_roundw
                  case rel =>
                    obtain ⟨v3, hv3⟩ := ext_ext Y v v2
                    exact ⟨j + 1, v3, by go_num, by omega, by rw [← HZQ.out, hv3]⟩
                  case measure => simp [intOf]; omega
            · have hjk : j = k := by omega
              subst hjk
              obtain ⟨P4, hP4⟩ : ∃ P4, Y.ext v = P4 := ⟨_, rfl⟩
              have HG4 := hide (show G2 w P4 B S A j c hs gb (gb + 1) j us by rw [← hP4]; exact HG.out.belowAll (Below.of_ext Y v (Nat.le_refl _)))
              rw [hP4]
              clear hP4 HG hj hlt
              go_wp2_with fail
              have HG40 := hide (show G4 w P4 B S A j c hs gb P4.heap.size 0 us from ⟨HG4.out.F, HG4.out.G, HG4.out.ul, fun i h hi => absurd hi (by omega), by have := HG4.out.b2; omega, HG4.out.hb⟩)
              obtain ⟨B4, hB4⟩ : ∃ B4, P4.heap.size = B4 := ⟨_, rfl⟩
              rw [hB4] at HG40
              clear HG4 hB4
              go_loopw [11] (fun a wr => ∃ (k : Nat) (us : List Hdr), a = .int .i64 k ∧ k ≤ j ∧ G4 w wr B S A j c hs gb B4 k us) (fun a _ => j - (intOf a).toNat)
              case atStart => exact ⟨0, us, rfl, Nat.zero_le _, HG40.out⟩
              case round =>
                obtain ⟨k, us4, rfl, hk, hg4⟩ := hrel
                have HG := hide hg4
                clear hg4
                by_cases hlt : k < j
                · obtain ⟨b, off, h, hA, hb, hSb, hh, hc⟩ := at_hdr HG.out.F.ls hlt
                  subst hA
                  have HH := hide hh
                  have hhn := HM.out k h hh
                  clear hh
                  have hBw : B ≤ wr.heap.size := by have := HG.out.b4; omega
                  go_wp2_with (at_make; refine wpList_make_row _ rfl _ _ 52 rfl 3 i0 _ Try.underlying52 HI0.out HZ.out HZ1.out rfl _ _ 64 rfl rfl (by rw [HZ2.out]; omega) (by omega) ?_)
                  obtain ⟨V, hV⟩ : ∃ V, V = wr := ⟨_, rfl⟩
                  subst hV
                  have HOM := hide (show OwnL (V.alloc (.cells (madeCells #[.int .i64 0] 64) 3)) B 3 (fun _ => False) (.slice (some ⟨V.heap.size, 0, none⟩) 64 64) (List.replicate 64 (0 : Int)) from
                    OwnL.made (α := Int) (z := #[.int .i64 0]) rfl (by decide) ⟨rfl, by decide, by decide⟩ (by unfold maxLen; omega) hBw (fun h => h) rfl)
                  have hB5 : Below V.heap.size V (V.alloc (.cells (madeCells #[.int .i64 0] 64) 3)) := (Below.refl _ _).alloc (Nat.le_refl _) _
                  obtain ⟨X, hX⟩ : ∃ X, V.alloc (.cells (madeCells #[.int .i64 0] 64) 3) = X := ⟨_, rfl⟩
                  rw [hX] at hB5
                  have HB5 := hide hB5
                  clear hB5
                  rw [hX] at HOM
                  have hVX : V.heap.size < X.heap.size := by rw [← hX]; simp
                  rw [hX]
                  clear hX
                  obtain ⟨mb, hmb⟩ : ∃ mb, V.heap.size = mb := ⟨_, rfl⟩
                  have HMB := hide hmb
                  rw [hmb] at HOM hVX HB5
                  rw [hmb]
                  clear hmb
                  have hl0 : (List.replicate 64 (0 : Int)).length = 64 := by simp
                  have hp0 : ∀ y ∈ List.replicate 64 (0 : Int), InI y := fun y hy => by rw [List.eq_of_mem_replicate hy]; exact ⟨by decide, by decide⟩
                  obtain ⟨ys0, hys0⟩ : ∃ ys0, List.replicate 64 (0 : Int) = ys0 := ⟨_, rfl⟩
                  rw [hys0] at HOM hl0 hp0
                  have HL0 := hide hl0; have HP0 := hide hp0
                  clear hys0 hl0 hp0 hb hc
                  go_wp2_with fail
                  go_loopw [13] (fun a wr => ∃ (i : Nat) (ys : List Int), a = .int .i64 i ∧ i ≤ 64 ∧ ys.length = 64 ∧ (∀ y ∈ ys, InI y) ∧ OwnL wr B 3 (fun _ => False) (.slice (some ⟨mb, 0, none⟩) 64 64) ys ∧ Below mb V wr ∧ mb < wr.heap.size) (fun a _ => 64 - (intOf a).toNat)
                  case atStart => exact ⟨0, ys0, rfl, Nat.zero_le _, HL0.out, HP0.out, HOM.out, HB5.out, hVX⟩
                  case round =>
                    obtain ⟨i, ys, rfl, hi, hyl, hyp, hoy, hbv, hmw⟩ := hrel
                    have HYL := hide hyl; have HYP := hide hyp; have HOY := hide hoy; have HBV := hide hbv
                    clear hyl hyp hoy hbv HOM HL0 HP0 HB5 hVX
                    by_cases hli : i < 64
                    · obtain ⟨y0, hy0⟩ : ∃ y0, ys[i]? = some y0 := ⟨_, List.getElem?_eq_getElem (by rw [HYL.out]; exact hli)⟩
                      obtain ⟨us, hus, hcu, hfu⟩ := HOY.out.cell_at hy0
                      have hus' : us = [.int .i64 y0] := hus.1
                      subst hus'
                      have hcy := hcu 0 _ rfl
                      simp only [show Rep.size Int = 1 from rfl, Nat.mul_one, Nat.add_zero] at hcy
                      have hfz := hfu i
                      obtain ⟨mm, hmm⟩ : ∃ mm, markI (k + j) i = mm := ⟨_, rfl⟩
                      have HMI := hide (show InI mm by rw [← hmm]; exact markI_bd (by omega) (by omega))
                      have HMA := hide (fun W => show Calls Try.prog 66 #[.int .i64 ((k : Int) + j), .int .i64 i] W (Ret (.int .i64 mm) W) from hmm ▸ (by have := mark_any (k + j) i W ⟨by omega, by omega⟩ ⟨by omega, by omega⟩; simpa using this))
                      clear hmm hcu hfu
                      have HST := hide (HOY.out.set (j := 0) (v := .int .i64 mm) (y := mm) hy0 (by decide) (fun us hu => by
                        have e : us = [.int .i64 y0] := hu.1
                        subst e
                        exact ⟨rfl, HMI.out⟩))
                      simp only [show Rep.size Int = 1 from rfl, Nat.mul_one, Nat.add_zero] at HST
                      clear hus hy0
                      go_wp2_with ((go_at_call 66; refine (HMA.out _).mono ?_; rintro e w' ⟨rfl, rfl⟩))
                      go_roundw
                      case rel => exact ⟨i + 1, ys.set i mm, by go_num, by omega, by rw [List.length_set]; exact HYL.out, fun y hy => by
                        rcases List.mem_or_eq_of_mem_set hy with h | h
                        · exact HYP.out y h
                        · rw [h]; exact HMI.out, HST.out, HBV.out.setCell (Nat.le_refl _) _, by simpa using hmw⟩
                      case measure => simp [intOf]; omega
                    · have hi64 : i = 64 := by omega
                      subst hi64
                      have HG6 := hide (show G4 w wr B S (some ⟨b, off, none⟩) j c hs gb B4 k us4 by exact HG.out.belowAll (HMB.out.symm ▸ HBV.out))
                      obtain ⟨b2, off2, h2, hA2, hb, _, hh2, hc⟩ := at_hdr HG6.out.F.ls hlt
                      injection hA2 with hA2
                      injection hA2 with e1 e2
                      subst e1 e2
                      have eh : h2 = h := by rw [HH.out] at hh2; injection hh2 with e; exact e.symm
                      subst eh
                      have HOH := hide (show OwnL wr B 3 (fun _ => False) h2.v (mkL k h2.n) by rw [← MK_at HH.out]; exact HG6.out.F.rows.own k h2 HH.out)
                      have HBW := hide (show B ≤ wr.heap.size by have := HG6.out.b4; have := HG6.out.F.sz; omega)
                      clear HBV HG hh2
                      have HCL := hide (fun (j' : Nat) (y : Int) (hj' : ys[j']? = some y) => show wr.cell? ((⟨mb, 0, none⟩ : Addr).add j') = some (.int .i64 y) by
                        obtain ⟨us, hus, hcu, _⟩ := HOY.out.cell_at hj'
                        have hus' : us = [.int .i64 y] := hus.1
                        subst hus'
                        have := hcu 0 _ rfl
                        rcases Nat.eq_zero_or_pos j' with e | e
                        · subst e; simpa [Addr.add, show Rep.size Int = 1 from rfl] using this
                        · simpa [Addr.add, show Rep.size Int = 1 from rfl, Nat.pos_iff_ne_zero.1 e] using this)
                      go_wp2_with (at_builtin; refine wpList_pushK wr rfl (.tmp 148) (.tmp 149) 52 rfl B 3 i0 _ 8 Try.underlying52 HI0.out HZ.out HZ1.out HZ2.out rfl h2.v (mkL k h2.n) ys rfl HOH.out ⟨mb, 0, none⟩ 64 64 rfl HYL.out HYP.out HCL.out (by rw [mkL_len]; unfold maxLen; omega) (by rw [mkL_len]; omega) HBW.out ?_; intro v' w' ho1 ho2 hgr h5; obtain ⟨gv', rfl, ⟨u0, hcg⟩, hfz, hgbl, hg4⟩ := HG6.out.push hlt HH.out ho1 ho2 hgr h5; have H4 := hide hg4; clear ho1 ho2 hgr h5 hg4)
                      go_roundw
                      case rel => exact ⟨k + 1, _, by go_num, by omega, H4.out⟩
                      case measure => simp [intOf]; omega
                · have hkn : k = j := by omega
                  subst hkn
                  clear HG40 hlt hk
                  go_wp2_with fail
                  obtain ⟨Y4, hY4⟩ : ∃ Y4, Y4 = wr := ⟨_, rfl⟩
                  subst hY4
                  go_loopw [14] (fun a wr => ∃ (q : Nat) (v : Ext), a = .int .i64 q ∧ q ≤ k ∧ wr = Y4.ext v) (fun a _ => k - (intOf a).toNat)
                  case atStart => exact ⟨0, _, rfl, Nat.zero_le _, (ext_refl Y4).choose_spec⟩
                  case round =>
                    obtain ⟨q, v4, rfl, hq, rfl⟩ := hrel
                    by_cases hlt : q < k
                    · obtain ⟨b, off, h, hA, hb, hSb, hh, hc⟩ := at_hdr HG.out.F.ls hlt
                      subst hA
                      obtain ⟨u, ys, hu, hou, _⟩ := HG.out.u q h hlt hh
                      have HOH := hide (show OwnL Y4 B 3 (fun _ => False) h.v (mkL q h.n) by rw [← MK_at hh]; exact HG.out.F.rows.own q h hh)
                      have HOU := hide hou
                      have hcu := HG.out.G.cell hu
                      have hgbl := HG.out.G.lt
                      have hhn := HM.out q h hh
                      have hun : u.n = h.n + ys.length := by
                        obtain ⟨_, _, e⟩ := hou.form
                        injection e with _ e _
                        rw [List.length_append, mkL_len] at e
                        exact e
                      obtain ⟨ha, hn', hc'⟩ := h
                      obtain ⟨ua, un, uc⟩ := u
                      simp only at hun hc hcu hhn
                      simp only at HOH HOU
                      clear hh hu hou
                      obtain ⟨Z, hZ⟩ : ∃ Z, Y4.ext v4 = Z := ⟨_, rfl⟩
                      have HZQ := hide hZ
                      have zc : Z.cell? ⟨b, off + q, none⟩ = some (.slice ha hn' hc') := by rw [← hZ]; exact (cell?_ext Y4 v4 _ hb).trans hc
                      have zu : Z.cell? ⟨gb, q, none⟩ = some (.slice ua un uc) := by rw [← hZ]; exact (cell?_ext Y4 v4 _ hgbl).trans hcu
                      have zb : b < Z.heap.size := by rw [← hZ, size_ext]; omega
                      have zg : gb < Z.heap.size := by rw [← hZ, size_ext]; omega
                      have ZOH := hide (show OwnL Z B 3 (fun _ => False) (.slice ha hn' hc') (mkL q hn') by rw [← hZ]; exact HOH.out.ext v4)
                      have ZOU := hide (show OwnL Z B 3 (fun _ => False) (.slice ua un uc) (mkL q hn' ++ ys) by rw [← hZ]; exact HOU.out.ext v4)
                      rw [hZ]
                      have hnu : hn' ≤ un := by omega
                      clear hZ hc hcu hb hgbl HOH HOU hun
                      go_wp2_with fail
                      go_loopw [15] (fun a wr => ∃ (i : Nat) (v : Ext), a = .int .i64 i ∧ i ≤ hn' ∧ wr = Z.ext v) (fun a _ => hn' - (intOf a).toNat)
                      case atStart => exact ⟨0, _, rfl, Nat.zero_le _, (ext_refl Z).choose_spec⟩
                      case round =>
                        obtain ⟨i, v2, rfl, hi, rfl⟩ := hrel
                        obtain ⟨X2, hX2⟩ : ∃ X, Z.ext v2 = X := ⟨_, rfl⟩
                        have HX2 := hide hX2
                        have xc : X2.cell? ⟨b, off + q, none⟩ = some (.slice ha hn' hc') := by rw [← hX2]; exact (cell?_ext Z v2 _ zb).trans zc
                        have xb : b < X2.heap.size := by rw [← hX2, size_ext]; omega
                        by_cases hli : i < hn'
                        · have xu : X2.cell? ⟨gb, q, none⟩ = some (.slice ua un uc) := by rw [← hX2]; exact (cell?_ext Z v2 _ zg).trans zu
                          have xg : gb < X2.heap.size := by rw [← hX2, size_ext]; omega
                          have hlu : i < un := by omega
                          obtain ⟨bu, ofu, mm, hua, hbu, hmm, hmi, hcm⟩ := at_int ((ZOU.out.ext v2).sl (S' := fun _ => True) (fun _ _ _ => trivial)) hlu
                          rw [hX2] at hbu hcm
                          rw [List.getElem?_append_left (by rw [mkL_len]; exact hli), mkL_at hli] at hmm
                          injection hmm with hmm
                          subst hua
                          have HMA := hide (fun W => show Calls Try.prog 66 #[.int .i64 q, .int .i64 i] W (Ret (.int .i64 mm) W) from hmm ▸ mark_any q i W ⟨by omega, by omega⟩ ⟨by omega, by omega⟩)
                          obtain ⟨bh, ofh, m2, hha, hbh, hm2, _, hch⟩ := at_int ((ZOH.out.ext v2).sl (S' := fun _ => True) (fun _ _ _ => trivial)) hli
                          rw [hX2] at hbh hch
                          rw [mkL_at hli, hmm] at hm2
                          injection hm2 with hm2
                          subst hm2
                          subst hha
                          have hmq : (mm == mm) = true := by simp
                          rw [hX2]
                          clear hX2 hmm zc zu zb zg hmi
                          go_wp2_with fail
                          refine wp_region_flow_ext [] [] (by kernel_rfl) rfl (by kernel_rfl) ?_
                          repeat (refine flow_known (by kernel_rfl) (fun K hK => ?_); go_simp; (first | (refine hK _ ?_; clear hK K) | (apply Exists.intro; refine ⟨fun _ => ?_, hK _ ?_⟩; ((go_at_call 66; exact Ret.retX (HMA.out _))); clear hK K)))
                          refine flow_done [] (by kernel_rfl) ?_
                          intro u6
                          simp only [List.nil_append, List.cons_append, endH_f, endH_t, endH_nil]
                          go_simp
                          go_wp2_with fail
                          go_roundw
                          case rel =>
                            obtain ⟨v3, hv3⟩ := ext_ext Z v2 u6
                            exact ⟨i + 1, v3, by go_num, by omega, by rw [← HX2.out, hv3]⟩
                          case measure => simp [intOf]; omega
                        · rw [hX2]
                          clear hX2
                          go_wp2_with fail
                          go_roundw
                          case rel =>
                            obtain ⟨v3, hv3⟩ := ext_ext Y4 v4 v2
                            exact ⟨q + 1, v3, by go_num, by omega, by rw [← HX2.out, ← HZQ.out, hv3]⟩
                          case measure => simp [intOf]; omega
                    · have hqk : q = k := by omega
                      subst hqk
                      have HBL := hide (show Below B w (Y4.ext v4) ∧ ∀ b, S b → (Y4.ext v4).heap[b]? = w.heap[b]? from have h := HG.out.F.ext (by have := HG.out.b4; have := HG.out.F.sz; omega) v4; ⟨h.bel, h.kp⟩)
                      clear HG hlt hq
                      go_wp2_with fail
                      go_ret
                      exact ⟨rfl, HBL.out⟩
end Go.Proofs.Ytoghikagooegbaa
