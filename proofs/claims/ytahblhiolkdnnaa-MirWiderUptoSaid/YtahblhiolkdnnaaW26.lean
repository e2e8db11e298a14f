/- Walks: copies whose inner lists are rows of their own, with all their room. Written by gen_w26.py. -/
import Derived.Test.YtahblhiolkdnnaaK1
import Derived.Test.YtahblhiolkdnnaaOwn2
set_option linter.unusedSimpArgs false
set_option linter.unusedVariables false
namespace Go.Proofs.Ytahblhiolkdnnaa
open Go.RowKit
/-- A row of the call's own, all of it in blocks of S. -/
def OwnRep (w : World) (S : Nat → Prop) (v : Value) (l : List Ins) : Prop :=
  ∃ So, OwnL w 0 30 So v l ∧ (∀ g, v.ownBlock = some g → S g) ∧ ∀ b, So b → S b ∧ b < w.heap.size
theorem OwnRep.keep {w w' : World} {S : Nat → Prop} {v : Value} {l : List Ins} (h : OwnRep w S v l) (hs : w.heap.size ≤ w'.heap.size) (hk : ∀ b, S b → b < w.heap.size → w'.heap[b]? = w.heap[b]?) : OwnRep w' S v l := by
  obtain ⟨So, h1, h2, h3⟩ := h
  exact ⟨So, h1.keep hs (fun b hb hl => hk b (h3 b hb).1 hl) (fun g hg => hk g (h2 g hg) (h1.below_ g hg).2), h2, fun b hb => ⟨(h3 b hb).1, by have := (h3 b hb).2; omega⟩⟩
theorem OwnRep.more {w : World} {S S' : Nat → Prop} {v : Value} {l : List Ins} (h : OwnRep w S v l) (hS : ∀ b, b < w.heap.size → S b → S' b) : OwnRep w S' v l := by
  obtain ⟨So, h1, h2, h3⟩ := h
  exact ⟨So, h1, fun g hg => hS g (h1.below_ g hg).2 (h2 g hg), fun b hb => ⟨hS b (h3 b hb).2 (h3 b hb).1, (h3 b hb).2⟩⟩
theorem OwnRep.alloc {w : World} {S : Nat → Prop} {v : Value} {l : List Ins} (h : OwnRep w S v l) (o : Obj) : OwnRep (w.alloc o) S v l := h.keep (by simp) fun b _ hb => Below.heap_alloc w o b hb
theorem OwnRep.ext {w : World} {S : Nat → Prop} {v : Value} {l : List Ins} (h : OwnRep w S v l) (u : Ext) : OwnRep (w.ext u) S v l := h.keep (by rw [size_ext]; omega) fun b _ hb => ext_block w u b hb
theorem OwnRep.ext_swap {W W' : World} {u : Ext} {S : Nat → Prop} {v : Value} {l : List Ins} (h : OwnRep (W.ext u) S v l) (hs : W'.heap.size = W.heap.size) (hS : ∀ b, S b → W.heap.size ≤ b) : OwnRep (W'.ext u) S v l :=
  h.keep (by rw [size_ext, size_ext, hs]; omega) fun b hb _ => ext_high W u W' hs b (hS b hb)
theorem OwnRep.sl {w : World} {S : Nat → Prop} {A : Option Addr} {n c : Nat} {l : List Ins} (h : OwnRep w S (.slice A n c) l) : Sl w S A n c l := by
  obtain ⟨So, ⟨vals, ⟨h1, h⟩, hr, ha⟩, h2, h3⟩ := h
  rcases h with ⟨e, h0⟩ | ⟨g, cap, cur, e, hg, hh, hnc, hcm, hsz, htake⟩
  · injection e with e1 e2 e3
    subst e1 e2 e3
    obtain rfl : l = [] := List.eq_nil_of_length_eq_zero h0
    exact Sl.nil
  · injection e with e1 e2 e3
    subst e1 e2 e3
    have hgl : g < w.heap.size := (Array.getElem?_eq_some_iff.1 hh).1
    refine ⟨rfl, hnc, hcm, fun h => by simp at h, fun _ => ⟨g, 0, rfl, hgl, h2 g rfl, fun i x hi => ?_⟩⟩
    obtain ⟨us, hus, hc⟩ := hr.at_ hi
    refine ⟨us, Rep.more hus (fun b hb h => (h3 b h).1), fun j u hj => ?_⟩
    rw [cell_of_row w g _ cur 30 (0, 0) hh]
    have := hc j u hj
    rw [← htake, List.getElem?_take] at this
    split at this
    · simpa using this
    · cases this
theorem RetO.rep {xs : List Ins} {w w' : World} {e : Ending} (h : RetO 30 xs w e w') : ∃ A n c, e = .returned (.slice A n c) ∧ OwnRep w' (fun b => w.heap.size ≤ b) (.slice A n c) xs ∧ ∃ u : Ext, w' = w.ext u := by
  obtain ⟨A, n, c, S, rfl, h1, h2, h3⟩ := h
  refine ⟨A, n, c, rfl, ⟨S, ?_, fun g hg => (h1.below_ g hg).1, fun b hb => h2 b hb⟩, h3⟩
  obtain ⟨vals, ⟨l1, l2⟩, hr, ha⟩ := h1
  refine ⟨vals, ⟨l1, ?_⟩, hr, ha⟩
  rcases l2 with l2 | ⟨g, cap, cur, e, hg, rest⟩
  · exact .inl l2
  · exact .inr ⟨g, cap, cur, e, Nat.zero_le _, rest⟩
structure OwnI where
  l : List Ins
instance : Rep OwnI where
  size := 1
  is w S x vs := ∃ A c, vs = [.slice A x.l.length c] ∧ OwnRep w S (.slice A x.l.length c) x.l
  len h := by obtain ⟨A, c, rfl, _⟩ := h; rfl
  keep h hs hk := by obtain ⟨A, c, rfl, h⟩ := h; exact ⟨A, c, rfl, h.keep hs hk⟩
  more h hb := by obtain ⟨A, c, rfl, h⟩ := h; exact ⟨A, c, rfl, h.more hb⟩
  one h := by obtain ⟨A, c, rfl, _⟩ := h; simp [Value.oneCell']
structure BlockR where
  ins : OwnI
  term : Term
instance : Rep BlockR := Rep.via fun x => (x.ins, x.term)
def Block.r (x : Block) : BlockR := ⟨⟨x.ins⟩, x.term⟩
theorem BlockR.open_ {w : World} {S : Nat → Prop} {x : BlockR} {vs : List Value} (h : Rep.is w S x vs) : ∃ A c, vs = [.slice A x.ins.l.length c, .int .i64 x.term.kind, .int .i64 x.term.a, .int .i64 x.term.to0, .int .i64 x.term.to1] ∧ OwnRep w S (.slice A x.ins.l.length c) x.ins.l ∧ InI x.term.kind ∧ InI x.term.a ∧ InI x.term.to0 ∧ InI x.term.to1 := by
  obtain ⟨us, ts, rfl, ⟨A, c, rfl, h1⟩, h2⟩ := h
  obtain ⟨rfl, i1, i2, i3, i4⟩ := Term.open_ h2
  exact ⟨A, c, rfl, h1, i1, i2, i3, i4⟩
theorem BlockR.mk_ {w : World} {S : Nat → Prop} {x : BlockR} {A : Option Addr} {c : Nat} (h : OwnRep w S (.slice A x.ins.l.length c) x.ins.l) (i1 : InI x.term.kind) (i2 : InI x.term.a) (i3 : InI x.term.to0) (i4 : InI x.term.to1) : Rep.is w S x [.slice A x.ins.l.length c, .int .i64 x.term.kind, .int .i64 x.term.a, .int .i64 x.term.to0, .int .i64 x.term.to1] :=
  ⟨_, _, rfl, ⟨A, c, rfl, h⟩, Term.mk_ i1 i2 i3 i4⟩
theorem blkr_mk {w : World} {S S' : Nat → Prop} {x : Block} {A : Option Addr} {c m : Nat} {o : Obj} (hm : m = x.ins.length) (h : OwnRep w S (.slice A x.ins.length c) x.ins) (hS : ∀ b, b < w.heap.size → S b → S' b) (i1 : InI x.term.kind) (i2 : InI x.term.a) (i3 : InI x.term.to0) (i4 : InI x.term.to1) :
    Rep.is (w.alloc o) S' x.r [.slice A m c, .int .i64 x.term.kind, .int .i64 x.term.a, .int .i64 x.term.to0, .int .i64 x.term.to1] := by
  subst hm; exact BlockR.mk_ (x := x.r) ((h.more hS).alloc o) i1 i2 i3 i4
theorem BlockR.forget {w : World} {S : Nat → Prop} {x : Block} {vs : List Value} (h : Rep.is w S x.r vs) : Rep.is w S x vs := by
  obtain ⟨A, c, rfl, h1, i1, i2, i3, i4⟩ := BlockR.open_ h
  exact Block.mk_ h1.sl i1 i2 i3 i4
/-- A block whose own memory lies between two bounds. -/
structure BlockS where
  blk : Block
  lo : Nat
  hi : Nat
instance : Rep BlockS where
  size := 5
  is w S x vs := Rep.is w (fun b => S b ∧ x.lo ≤ b ∧ b < x.hi) x.blk.r vs
  len h := Rep.len (α := BlockR) h
  keep h hs hk := Rep.keep (α := BlockR) h hs fun b hb => hk b hb.1
  more h hb := Rep.more (α := BlockR) h fun b hl hS => ⟨hb b hl hS.1, hS.2⟩
  one h := Rep.one (α := BlockR) h
/-- A row of blocks of its own, each with memory of its own. -/
def RetD (xs : List Block) (w : World) (e : Ending) (w' : World) : Prop :=
  ∃ A n c S ys, e = .returned (.slice A n c) ∧ OwnL w' w.heap.size 42 S (.slice A n c) (ys : List BlockS) ∧ ys.map (·.blk) = xs ∧ ys.Pairwise (fun a b => a.hi ≤ b.lo) ∧ (∀ b, S b → w.heap.size ≤ b ∧ b < w'.heap.size) ∧ ∃ u : Ext, w' = w.ext u
theorem RetD.mk_ {xs : List Block} {w w' : World} {v : Value} {S : Nat → Prop} {ys : List BlockS} (h : OwnL w' w.heap.size 42 S v ys) (hx : ys.map (·.blk) = xs) (hp : ys.Pairwise (fun a b => a.hi ≤ b.lo)) (hS : ∀ b, S b → w.heap.size ≤ b ∧ b < w'.heap.size) (hb : Below w.heap.size w w') : RetD xs w (.returned v) w' := by
  obtain ⟨A, c, rfl⟩ := h.form
  exact ⟨A, _, c, S, ys, rfl, h, hx, hp, hS, Below.to_ext hb⟩
theorem pair_snoc {ys : List BlockS} {y : BlockS} {N : Nat} (h : ys.Pairwise (fun a b => a.hi ≤ b.lo)) (hN : ∀ y ∈ ys, y.hi ≤ N) (hy : N ≤ y.lo) : (ys ++ [y]).Pairwise (fun a b => a.hi ≤ b.lo) := by
  rw [List.pairwise_append]
  exact ⟨h, by simp, fun a ha b hb => by simp at hb; subst hb; have := hN a ha; omega⟩
theorem Sl.map_forget {α β : Type} [Rep α] [Rep β] {w : World} {S : Nat → Prop} {A : Option Addr} {n c : Nat} {xs : List α} (f : α → β) (hs : Rep.size β = Rep.size α) (hf : ∀ x us, Rep.is w S (f x) us → Rep.is w S x us) (h : Sl w S A n c (xs.map f)) : Sl w S A n c xs := by
  obtain ⟨h1, h2, h3, h4, h5⟩ := h
  refine ⟨by simpa using h1, h2, h3, h4, fun hn => ?_⟩
  obtain ⟨b, off, e, hb, hS, hx⟩ := h5 hn
  refine ⟨b, off, e, hb, hS, fun i x hi => ?_⟩
  obtain ⟨us, hu, hc⟩ := hx i (f x) (by simp [hi])
  exact ⟨us, hf x us hu, fun j u hj => by have := hc j u hj; rwa [hs] at this⟩
theorem copyBlock_r (w : World) (S : Nat → Prop) (A0 : Option Addr) (n0 c0 : Nat) (x : Block) (h0 : Sl w S A0 n0 c0 x.ins) (hm0 : x.ins.length ≤ 1048576 ∧ ∀ y ∈ x.ins, SmallI 1048576 y) (hok : OkBlock x) :
    Calls Try.prog 62 #[.agg #[.slice A0 n0 c0, .int .i64 x.term.kind, .int .i64 x.term.a, .int .i64 x.term.to0, .int .i64 x.term.to1]] w (RetV x.r w) := by
  have H0 := hide h0; clear h0
  have HM0 := hide hm0; clear hm0
  have HOK := hide hok; clear hok
  go_enter Try.func62, Try.ntmps62
  go_wp2_with (go_at_call 73; refine (copyRow_any _ S A0 n0 c0 x.ins (by repeat (first | assumption | exact Hd.out (by assumption) | apply Sl.alloc | apply Sl.ext | apply Sl.drew | apply Sl.drewN)) HM0.out).mono ?_; rintro e _ hx; obtain ⟨B0, m0, e0, rfl, hs0, ux, rfl⟩ := hx.rep; have HS0 := hide hs0; clear hx hs0)
  refine bodyPost_ret (v := .agg #[.slice B0 m0 e0, .int .i64 x.term.kind, .int .i64 x.term.a, .int .i64 x.term.to0, .int .i64 x.term.to1]) (by simp [results, Try.results62, go_sem]) rfl ⟨_, rfl, ?_, Below.to_ext (by repeat (first | exact Below.refl _ _ | assumption | refine Below.alloc ?_ (by simp [size_ext]; try omega) _ | refine Below.ext ?_ (by simp [size_ext]; try omega) _ | refine Below.drew ?_ | refine Below.setCell ?_ (by simp [size_ext]; try omega) _))⟩
  obtain ⟨j0, j1, j2, j3⟩ := HOK.out
  obtain rfl : x.ins.length = m0 := HS0.out.sl.len
  exact BlockR.mk_ (x := x.r) ((HS0.out.ext_swap (by simp) (fun b hb => hb)).more (fun b _ hb => by simp at hb ⊢; omega)) j0 j1 j2 j3
theorem copyBlocks_r (w : World) (S : Nat → Prop) (A : Option Addr) (n c : Nat) (xs : List Block) (h : Sl w S A n c xs) (hm : xs.length ≤ 1048576 ∧ ∀ y ∈ xs, SmallB 1048576 y) :
    Calls Try.prog 38 #[.slice A n c] w (RetD xs w) := by
  have HL := hide h.len
  have hn : n ≤ 1048576 := by rw [← h.len]; exact hm.1
  have HS := hide h; clear h
  have HM := hide hm; clear hm
  obtain ⟨i0, hi, hz, hz1, hz2⟩ := info_parts info_Block
  have HI0 := hide hi; have HZ := hide hz; have HZ1 := hide hz1; have HZ2 := hide hz2
  clear hi hz hz1 hz2
  obtain ⟨B, hB⟩ : ∃ B, B = w.heap.size := ⟨_, rfl⟩
  have HB := hide hB
  have hB1 : B ≤ w.heap.size := by omega
  have hB2 : w.heap.size ≤ B := by omega
  clear hB
  go_enter Try.func38, Try.ntmps38
  go_wp2
  go_loopw [3, 4] (fun o i wr => ∃ k : Nat, ∃ So : Nat → Prop, k ≤ n ∧ i = .int .i64 k ∧ (∃ ys : List BlockS, OwnL wr B 42 So o ys ∧ ys.map (·.blk) = xs.take k ∧ ys.Pairwise (fun a b => a.hi ≤ b.lo) ∧ ∀ y ∈ ys, y.hi ≤ wr.heap.size) ∧ (∀ b, So b → B ≤ b ∧ b < wr.heap.size) ∧ Below B w wr ∧ B ≤ wr.heap.size) (fun _ i _ => n - (intOf i).toNat)
  case atStart => exact ⟨0, fun _ => False, Nat.zero_le _, rfl, ⟨[], OwnL.nil_ _ _ _ _, by simp, by simp, by simp⟩, fun _ h => h.elim, Below.refl _ _, hB1⟩
  case round =>
    obtain ⟨k, So, hk, rfl, ⟨ys, hown, hys, hpw, hhi⟩, hSo, hbel, hsz⟩ := hrel
    have HYS := hide hys; have HPW := hide hpw; have HHI := hide hhi
    clear hys hpw hhi
    have HO := hide hown; have HSo := hide hSo; have HBel := hide hbel
    clear hown hSo hbel
    by_cases hlt : k < n
    · obtain ⟨b, off, x, A0, n0, c0, rfl, hb, hx, hs0, q0, q1, q2, q3, d0, d1, d2, d3, d4⟩ := at_Block HS.out hlt
      have hcell : ∀ o, wr.cell? ⟨b, o, none⟩ = w.cell? ⟨b, o, none⟩ := fun o => HBel.out.cell (by show b < B; omega)
      rw [← hcell] at d0 d1 d2 d3 d4
      clear hcell
      have HSm := hide (HM.out.2 x (mem_at hx))
      have HX := hide (take_at hx); clear hx
      have HOk : Hd (OkBlock x) := hide ⟨q0, q1, q2, q3⟩
      clear q0 q1 q2 q3
      have HJ0 := hide ((hs0.more (S' := fun b => b < B) (fun b hb _ => by omega)).below HBel.out (fun _ h => h)); clear hs0
      go_wp2_with (first
        | (go_at_call 62; refine (copyBlock_r _ _ A0 n0 c0 x HJ0.out HSm.out HOk.out).mono ?_; rintro e _ ⟨us, rfl, hus, ux, rfl⟩; obtain ⟨B0, e0, rfl, ht0, -, -, -, -⟩ := BlockR.open_ hus; obtain ⟨m0, hm0⟩ : ∃ m0, m0 = x.ins.length := ⟨_, rfl⟩; change OwnRep _ _ (.slice B0 x.ins.length e0) x.ins at ht0; have HM0 := hide hm0; have HT0 := hide ht0; clear ht0 hus; simp only [show x.r.ins.l = x.ins from rfl, show x.r.term = x.term from rfl]; rw [← hm0]; clear hm0)
        | (at_builtin; refine wpList_push (α := BlockS) ((wr.ext ux).alloc (.cells #[.slice B0 m0 e0, .int .i64 x.term.kind, .int .i64 x.term.a, .int .i64 x.term.to0, .int .i64 x.term.to1] 42)) [.slice B0 m0 e0, .int .i64 x.term.kind, .int .i64 x.term.a, .int .i64 x.term.to0, .int .i64 x.term.to1] 42 rfl (.tmp 17) (.tmp 19) 25 rfl B 42 i0 _ 56 Try.underlying25 HI0.out HZ.out HZ1.out HZ2.out rfl (by decide) So (fun b => So b ∨ (wr.heap.size ≤ b ∧ b < (wr.ext ux).heap.size)) u3 ys ⟨x, wr.heap.size, (wr.ext ux).heap.size⟩ rfl ((HO.out.ext ux).alloc _) _ rfl ?hg ?hr (fun _ h => .inl h) ?hap ?hnew ?hl1 ?hl2 ?hl3 ?_; rotate_left 7; intro v' w1 hown' hg _; have HO' := hide hown'; have HG := hide hg; clear hown' hg))
      case hr =>
        obtain ⟨j0, j1, j2, j3⟩ := HOk.out
        exact blkr_mk HM0.out HT0.out (fun b hb h => ⟨.inr ⟨h, hb⟩, h, hb⟩) j0 j1 j2 j3
      case hg => simp [size_ext]
      case hap =>
        intro g hg hS
        rcases hS with hS | hS
        · exact absurd (HO.out) (fun h => by obtain ⟨_, _, _, h3⟩ := h; exact h3 g hg hS)
        · have := (HO.out.below_ g hg).2; omega
      case hnew =>
        intro b hS
        rcases hS with hS | hS
        · have := (HSo.out b hS).2; simp [size_ext]; omega
        · have := hS.2; simp [size_ext] at this ⊢; omega
      case hl1 => have hyl := congrArg List.length HYS.out; simp at hyl; (try simp); omega
      case hl2 => have hyl := congrArg List.length HYS.out; simp at hyl; (try simp); omega
      case hl3 => simp [size_ext]; omega
      go_wp2
      go_roundw
      case rel =>
        have hb1 : Below B w w1 := below_push (W := ((wr.ext ux).alloc (.cells #[.slice B0 m0 e0, .int .i64 x.term.kind, .int .i64 x.term.a, .int .i64 x.term.to0, .int .i64 x.term.to1] 42))) (v := u3) ((HBel.out.ext hsz ux).alloc (by simp [size_ext]; omega) _) ((HO.out.ext ux).alloc _) (by simp [size_ext]; omega) HG.out
        have hs1 := HG.out.size
        refine ⟨k + 1, _, by omega, by go_num, ⟨ys ++ [⟨x, wr.heap.size, (wr.ext ux).heap.size⟩], HO'.out, by rw [HX.out, List.map_append, HYS.out]; rfl, pair_snoc HPW.out HHI.out (Nat.le_refl _), ?_⟩, fun b hS => ?_, hb1, Nat.le_trans hB1 hb1.size⟩
        · intro y hy
          simp [size_ext] at hs1
          rcases List.mem_append.1 hy with hy | hy
          · have := HHI.out y hy; omega
          · simp at hy; subst hy; simp [size_ext]; omega
        simp [size_ext] at hs1
        rcases hS with hS | hS
        · have := HSo.out b hS; omega
        · have := hS.2; simp [size_ext] at this; omega
      case measure => simp [intOf]; omega
    · go_wp2
      go_ret
      have ho := HO.out
      have hy := HYS.out
      rw [take_end HL.out hlt] at hy
      have e := HB.out
      subst e
      exact RetD.mk_ ho hy HPW.out (HSo.out) HBel.out
theorem OwnL.ext_swap {α : Type} [Rep α] {W W' : World} {u : Ext} {base : Nat} {T : TypeId} {S : Nat → Prop} {v : Value} {xs : List α} (h : OwnL (W.ext u) base T S v xs) (hs : W'.heap.size = W.heap.size) (hS : ∀ b, S b → W.heap.size ≤ b) (hb : W.heap.size ≤ base) : OwnL (W'.ext u) base T S v xs :=
  h.keep (by rw [size_ext, size_ext, hs]; omega) (fun b hb' _ => ext_high W u W' hs b (hS b hb')) fun g hg => ext_high W u W' hs g (Nat.le_trans hb (h.below_ g hg).1)
theorem OwnL.lower {α : Type} [Rep α] {w : World} {base base' : Nat} {T : TypeId} {S : Nat → Prop} {v : Value} {xs : List α} (h : OwnL w base T S v xs) (hb : base' ≤ base) : OwnL w base' T S v xs := by
  obtain ⟨vals, ⟨l1, l2⟩, hr, ha⟩ := h
  refine ⟨vals, ⟨l1, ?_⟩, hr, ha⟩
  rcases l2 with l2 | ⟨g, cap, cur, e, hg, rest⟩
  · exact .inl l2
  · exact .inr ⟨g, cap, cur, e, by omega, rest⟩
/-- A target of its own, with all its room. -/
def RetT (x : Target) (w : World) (e : Ending) (w' : World) : Prop :=
  ∃ A n c So ys, e = .returned (.agg #[.int .i64 x.frame, .slice A n c]) ∧ OwnL w' w.heap.size 42 So (.slice A n c) (ys : List BlockS) ∧ ys.map (·.blk) = x.blocks ∧ ys.Pairwise (fun a b => a.hi ≤ b.lo) ∧ (∀ b, So b → w.heap.size ≤ b ∧ b < w'.heap.size) ∧ ∃ u : Ext, w' = w.ext u
theorem copyTarget_r (w : World) (S : Nat → Prop) (A0 : Option Addr) (n0 c0 : Nat) (x : Target) (h0 : Sl w S A0 n0 c0 x.blocks) (hm0 : x.blocks.length ≤ 1048576 ∧ ∀ y ∈ x.blocks, SmallB 1048576 y) :
    Calls Try.prog 12 #[.agg #[.int .i64 x.frame, .slice A0 n0 c0]] w (RetT x w) := by
  have H0 := hide h0; clear h0
  have HM0 := hide hm0; clear hm0
  go_enter Try.func12, Try.ntmps12
  go_wp2_with (go_at_call 38; refine (copyBlocks_r _ S A0 n0 c0 x.blocks (by repeat (first | assumption | exact Hd.out (by assumption) | apply Sl.alloc | apply Sl.ext | apply Sl.drew | apply Sl.drewN)) HM0.out).mono ?_; rintro e _ ⟨B0, m0, e0, So, ys, rfl, hs0, hys, hpw, hso, ux, rfl⟩; have HS0 := hide hs0; have HSo := hide hso; have HYS := hide hys; have HPW := hide hpw; clear hso hs0 hys hpw)
  refine bodyPost_ret (v := .agg #[.int .i64 x.frame, .slice B0 m0 e0]) (by simp [results, Try.results12, go_sem]) rfl ⟨B0, m0, e0, So, ys, rfl, ?_, HYS.out, HPW.out, ?_, Below.to_ext (by repeat (first | exact Below.refl _ _ | assumption | refine Below.alloc ?_ (by simp [size_ext]; try omega) _ | refine Below.ext ?_ (by simp [size_ext]; try omega) _ | refine Below.drew ?_ | refine Below.setCell ?_ (by simp [size_ext]; try omega) _))⟩
  · exact ((HS0.out.ext_swap (by simp) (fun b hb => (HSo.out b hb).1) (Nat.le_refl _)).lower (by simp; omega))
  · intro b hb; have := HSo.out b hb; simp [size_ext] at this ⊢; omega
end Go.Proofs.Ytahblhiolkdnnaa
