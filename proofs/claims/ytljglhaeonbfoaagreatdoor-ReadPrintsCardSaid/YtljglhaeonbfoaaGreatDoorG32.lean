/- Lists that lie apart: what is held of them; append that keeps what the old slice reads as. A cursor in regions that draw their order; how many words are left, as its cells tell it. law04: what stands while a function is read. -/
import Derived.Test.YtljglhaeonbfoaaGreatDoorG23
import Derived.Test.YtljglhaeonbfoaaGreatDoorG2
import Derived.Test.YtljglhaeonbfoaaGreatDoorG3
import Derived.Test.YtljglhaeonbfoaaGreatDoorG16
import Derived.Test.YtljglhaeonbfoaaGreatDoorG30
import Derived.Test.YtljglhaeonbfoaaGreatDoorG18
import Derived.Test.YtljglhaeonbfoaaGreatDoorG29
set_option linter.unusedSimpArgs false
set_option linter.unusedVariables false
namespace Go.Proofs.YtljglhaeonbfoaaGreatDoor
open Go.RowKit
structure Hdr where
 a : Option Addr
 n : Nat
 c : Nat
 deriving Inhabited
instance : Rep Hdr where
 size := 1
 is _ _ h vs := vs = [.slice h.a h.n h.c]
 len h := by rw [h]; rfl
 keep h _ _ := h
 more h _ := h
 one h := by rw [h]; simp [Value.oneCell']
section
variable {P : Program}
variable {ops : Array Oper} {rest : List Oper} {o : Oper} {a : Act} {Q : Exit → Act → World → Prop}
end
def mkL (k n : Nat) : List Int := (List.range n).map fun i : Nat => markI k i
section
variable {w w' : World} {B : Nat} {hs : List Hdr} {f f' : Nat → List Int}
end
end Go.Proofs.YtljglhaeonbfoaaGreatDoor
namespace Go.Proofs.YtljglhaeonbfoaaGreatDoor
open Go.RowKit Go.Maps
theorem Only.drew_ (c : Nat) (w : World) : Only c w w.drew := Only.of_below ((Below.refl _ _).drew)
theorem OwnL.lower28 {α : Type} [Rep α] {w : World} {b b' : Nat} {T : TypeId} {S : Nat → Prop} {v : Value} {xs : List α} (h : OwnL w b T S v xs) (hb : b' ≤ b) : OwnL w b' T S v xs := by
 obtain ⟨vals, ⟨l1, l2⟩, hr, ha⟩ := h
 refine ⟨vals, ⟨l1, ?_⟩, hr, ha⟩
 rcases l2 with l2 | ⟨g, cap, cur, e, hg, rest⟩
 ·exact .inl l2
 ·exact .inr ⟨g, cap, cur, e, Nat.le_trans hb hg, rest⟩
theorem wp_region_cur {P : Program} {id : Nat} {Q' : Exit → Act → World → Prop} {a : Act} {w : World} {l : List Oper} (c : Nat) (Ws Ms : List Nat) {N : Nat} (n : Nat) (hm : P.follows .mixedOrders = true) (hN : a.tmps.size = N)
  (hB : flowB l.toArray (ancOf l.toArray) Ws Ms N = true) (hT : tailB l n = true)
  (h : FlowG P l.toArray (Only c w) (extF w) (ancOf l.toArray) Ws Ms (fun a w => wpList P l.toArray Q' (l.drop n) a w) (l.take n) 0 a []) : (Code.region id l.toArray true).wp P Q' a w :=
 wp_region_G_tail (Only c w) (extF w) Ws Ms n hm hN hB hT (fun _ u h => h.ext u) (fun _ u ⟨x, hx⟩ => by rw [hx]; exact ext_ext w x u) (Only.drew_ c w) (ext_drew w) h
def CurI (S : Nat → Prop) (c : Nat) (s : Cur) (p : Int) : Post := fun v w => v = .int .i64 p ∧ CurAt w S c s
theorem CurI.stable_ {F : World → Prop} {S : Nat → Prop} {c : Nat} {s : Cur} {p : Int} {mem : Bool} (hm : mem = true) : stable F mem (CurI S c s p) :=
 stable_mem hm fun _ w u ⟨hv, h⟩ => ⟨hv, h.ext u⟩
def LitB (B : Nat) (T : TypeId) (us : List Value) (m : Nat) : Post := fun v w => ∃ g, v = .slice (some ⟨g, 0, none⟩) m m ∧ B ≤ g ∧ w.heap[g]? = some (.cells us.toArray T (0, 0))
theorem LitB.stable_ {F : World → Prop} {B : Nat} {T : TypeId} {us : List Value} {m : Nat} {mem : Bool} (hm : mem = true) : stable F mem (LitB B T us m) :=
 stable_mem hm fun _ w u ⟨g, hv, hb, h⟩ => ⟨g, hv, hb, by rw [ext_block w u g (Array.getElem?_eq_some_iff.1 h).1]; exact h⟩
theorem lit_news {w : World} {g : Nat} {T : TypeId} {us : List Value} (h : w.heap[g]? = some (.cells us.toArray T (0, 0))) (j : Nat) (u : Value) (hj : us[j]? = some u) : w.cell? ((⟨g, 0, none⟩ : Addr).add j) = some u := by
 rw [Addr.add_mid, Nat.zero_add, cell_of_row w g _ _ T (0, 0) h]
 simpa using hj
theorem numC_rng {lo hi : Int} (h1 : lo ≤ 0) (h2 : 0 ≤ hi) (s : Cur) : lo ≤ (numC lo hi s).1 ∧ (numC lo hi s).1 ≤ hi := by
 unfold numC
 split
 ·split
  ·split
   ·exact ⟨h1, h2⟩
   ·simp only; omega
  ·exact ⟨h1, h2⟩
 ·exact ⟨h1, h2⟩
def leftM (c : Nat) (w : World) : Nat := match w.cell? ⟨c, 0, none⟩, w.cell? ⟨c, 1, none⟩ with
 | some (.slice _ n _), some (.int _ e) => if e = 0 then n else 0
 | _, _ => 0
theorem CurAt.leftM_ {w : World} {S : Nat → Prop} {c : Nat} {s : Cur} (h : CurAt w S c s) : leftM c w = leftC s := by
 obtain ⟨A, n, k, k0, k1, _, _, _, hs⟩ := h.at_
 unfold leftM leftC
 rw [k0, k1]
 have := hs.len
 rw [List.length_map] at this
 rw [this]
end Go.Proofs.YtljglhaeonbfoaaGreatDoor
namespace Go.Proofs.YtljglhaeonbfoaaGreatDoor
open Go.RowKit
structure Rd4 (w : World) (S : Nat → Prop) (c : Nat) (s : Cur) : Prop where
 cur : CurAt w S c s
 vars : VarsP w
 og : 6 ≤ c
 wd : Wd s
section
variable {w0 w W W' : World} {R M c : Nat} {S : Nat → Prop} {T : TypeId} {cs cs' : Array Value} {s s' : Cur}
theorem VarsP.only (h : VarsP w) (hon : Only c w W') (hg : 6 ≤ c) : VarsP W' := h.keep hon.size fun b hb => hon.block b (by have := h.v.sz; omega) (by omega)
theorem Rd4.call (h : Rd4 w S c s) (hon : Only c w W') (hat : CurAt W' S c s') (hs : SufX s s') : Rd4 W' S c s' := ⟨hat, h.vars.only hon h.og, h.og, h.wd.suf hs⟩
theorem Rd4.ext (h : Rd4 w S c s) (u : Ext) : Rd4 (w.ext u) S c s := h.call ((Only.refl c w).ext u) (h.cur.ext u) (SufX.refl s)
structure RA4 (w0 W : World) (R c : Nat) (S : Nat → Prop) (s : Cur) : Prop where
 rdr : W.heap[R]? = some (.cells #[.pointer (some ⟨c, 0, none⟩)] 77 (0, 0))
 rd : Rd4 W S c s
 only : Only c w0 W
 o1 : c < R
 o3 : ∀ b, S b → b < R
 o4 : w0.heap.size ≤ R
theorem RA4.rl (h : RA4 w0 W R c S s) : R < W.heap.size := (Array.getElem?_eq_some_iff.1 h.rdr).1
theorem RA4.cl (h : RA4 w0 W R c S s) : c < W.heap.size := by have := h.rl; have := h.o1; omega
theorem RA4.k0 (h : RA4 w0 W R c S s) : W.cell? ⟨R, 0, none⟩ = some (.pointer (some ⟨c, 0, none⟩)) := cell_of_row W R _ _ _ (0, 0) h.rdr
theorem RA4.start (h : Rd4 w S c s) : RA4 w (w.alloc (.cells #[.pointer (some ⟨c, 0, none⟩)] 77)) w.heap.size c (fun b => S b ∧ b < w.heap.size) s where
 rdr := heap_alloc_new w _
 rd := ⟨(h.cur.moreS (fun b hb hS => ⟨hS, hb⟩) fun e => h.cur.nS e.1).alloc _, h.vars.alloc _, h.og, h.wd⟩
 only := (Only.refl c w).alloc _
 o1 := h.cur.lt
 o3 := fun b hb => hb.2
 o4 := Nat.le_refl _
theorem RA4.call (h : RA4 w0 W R c S s) (hon : Only c W W') (hat : CurAt W' S c s') (hs : SufX s s') : RA4 w0 W' R c S s' where
 rdr := (hon.block R h.rl (by have := h.o1; omega)).trans h.rdr
 rd := h.rd.call hon hat hs
 only := h.only.trans hon
 o1 := h.o1
 o3 := h.o3
 o4 := h.o4
theorem RA4.ext (h : RA4 w0 W R c S s) (u : Ext) : RA4 w0 (W.ext u) R c S s := h.call ((Only.refl c W).ext u) (h.rd.cur.ext u) (SufX.refl s)
theorem RA4.alloc (h : RA4 w0 W R c S s) (o : Obj) : RA4 w0 (W.alloc o) R c S s := h.call ((Only.refl c W).alloc o) (h.rd.cur.alloc o) (SufX.refl s)
theorem RA4.grown {row : Option Nat} (h : RA4 w0 W R c S s) (hg : W.grownBy W' row) (hr : ∀ g, row = some g → R < g) : RA4 w0 W' R c S s := by
 have hk : ∀ b, b < W.heap.size → b ≤ R → W'.heap[b]? = W.heap[b]? := fun b hb hm => hg.block b hb (fun e => by have := hr b e.symm; omega)
 have o1 := h.o1; have o4 := h.o4; have rl := h.rl; have og := h.rd.og
 have hb0 : Below (R + 1) W W' := (Below.refl _ _).grown hg (by omega) (fun r e => hr r e)
 exact ⟨(hk R rl (Nat.le_refl _)).trans h.rdr, ⟨h.rd.cur.keep hg.size (hk c (by omega) (by omega)) (fun b hS hb => hk b hb (by have := h.o3 b hS; omega)), h.rd.vars.below hb0 (by omega), og, h.rd.wd⟩, ⟨hb0.os.trans h.only.os, hb0.tape.trans h.only.tape, hb0.output.trans h.only.output, Nat.le_trans h.only.size hg.size, fun b hb hc => (hk b (by have := h.only.size; omega) (by omega)).trans (h.only.block b hb hc)⟩, o1, h.o3, o4⟩
theorem RA4.set (h : RA4 w0 W R c S s) (hM : R < M) (j : Nat) (x : Value) : RA4 w0 (W.setCell ⟨M, j, none⟩ x) R c S s where
 rdr := (Below.heap_setCell W ⟨M, j, none⟩ x R (by show R ≠ M; omega)).trans h.rdr
 rd := ⟨h.rd.cur.keep (by simp) (Below.heap_setCell W ⟨M, j, none⟩ x c (by show c ≠ M; have := h.o1; omega)) fun b hS _ => Below.heap_setCell W ⟨M, j, none⟩ x b (by show b ≠ M; have := h.o3 b hS; omega), h.rd.vars.keep (by simp) fun b hb => Below.heap_setCell W ⟨M, j, none⟩ x b (by show b ≠ M; have := h.o1; have := h.rd.og; omega), h.rd.og, h.rd.wd⟩
 only := ⟨h.only.os, h.only.tape, h.only.output, by have := h.only.size; simpa using this, fun b hb hc => (Below.heap_setCell W ⟨M, j, none⟩ x b (by show b ≠ M; have := h.o4; omega)).trans (h.only.block b hb hc)⟩
 o1 := h.o1
 o3 := h.o3
 o4 := h.o4
structure XA4 (w0 W : World) (R M c : Nat) (S : Nat → Prop) (T : TypeId) (cs : Array Value) (s : Cur) : Prop where
 ra : RA4 w0 W R c S s
 row : W.heap[M]? = some (.cells cs T (0, 0))
 o2 : R < M
theorem XA4.ml (h : XA4 w0 W R M c S T cs s) : M < W.heap.size := (Array.getElem?_eq_some_iff.1 h.row).1
theorem XA4.fz (h : XA4 w0 W R M c S T cs s) (j : Nat) : W.frozen? ⟨M, j, none⟩ = false := by simp [World.frozen?, h.row]
theorem XA4.start (h : RA4 w0 W R c S s) (cs : Array Value) (T : TypeId) : XA4 w0 (W.alloc (.cells cs T)) R W.heap.size c S T cs s := ⟨h.alloc _, heap_alloc_new W _, h.rl⟩
theorem XA4.call (h : XA4 w0 W R M c S T cs s) (hon : Only c W W') (hat : CurAt W' S c s') (hs : SufX s s') : XA4 w0 W' R M c S T cs s' :=
 ⟨h.ra.call hon hat hs, (hon.block M h.ml (by have := h.ra.o1; have := h.o2; omega)).trans h.row, h.o2⟩
theorem XA4.ext (h : XA4 w0 W R M c S T cs s) (u : Ext) : XA4 w0 (W.ext u) R M c S T cs s := h.call ((Only.refl c W).ext u) (h.ra.rd.cur.ext u) (SufX.refl s)
theorem XA4.alloc (h : XA4 w0 W R M c S T cs s) (o : Obj) : XA4 w0 (W.alloc o) R M c S T cs s := h.call ((Only.refl c W).alloc o) (h.ra.rd.cur.alloc o) (SufX.refl s)
theorem XA4.set (h : XA4 w0 W R M c S T cs s) {j : Nat} {x : Value} (hr : cs.setIfInBounds j x = cs') : XA4 w0 (W.setCell ⟨M, j, none⟩ x) R M c S T cs' s := ⟨h.ra.set h.o2 j x, by rw [row_setB h.row, hr], h.o2⟩
end
abbrev NumP (S : Nat → Prop) (c : Nat) (w : World) (r : Int × Cur) : Ending → World → Prop := CurP S c w r.2 (.int .i64 r.1)
def ListP (S : Nat → Prop) (c : Nat) (w : World) (r : List Int × Cur) (e : Ending) (w' : World) : Prop :=
 ∃ A n k, e = .returned (.slice A n k) ∧ OwnL w' w.heap.size 3 (fun _ => False) (.slice A n k) r.1 ∧ CurAt w' S c r.2 ∧ Only c w w'
end Go.Proofs.YtljglhaeonbfoaaGreatDoor
