/- law28: walks: a tile is read. -/
import Derived.Test.YtppkanniefignaaGreatDoorC6
import Derived.Test.YtppkanniefignaaGreatDoorAP1
import Derived.Test.YtppkanniefignaaGreatDoorFlow9
set_option linter.unusedSimpArgs false
set_option linter.unusedVariables false
namespace Go.Proofs.YtppkanniefignaaGreatDoor
open Go.RowKit Go.Maps

theorem Only.drew_ (c : Nat) (w : World) : Only c w w.drew := Only.of_below ((Below.refl _ _).drew)
theorem OwnL.lower28 {α : Type} [Rep α] {w : World} {b b' : Nat} {T : TypeId} {S : Nat → Prop} {v : Value} {xs : List α} (h : OwnL w b T S v xs) (hb : b' ≤ b) : OwnL w b' T S v xs := by
  obtain ⟨vals, ⟨l1, l2⟩, hr, ha⟩ := h
  refine ⟨vals, ⟨l1, ?_⟩, hr, ha⟩
  rcases l2 with l2 | ⟨g, cap, cur, e, hg, rest⟩
  · exact .inl l2
  · exact .inr ⟨g, cap, cur, e, Nat.le_trans hb hg, rest⟩
/-- A drawn region in which operations write the cursor alone, and a tail. -/
theorem wp_region_cur {P : Program} {id : Nat} {Q' : Exit → Act → World → Prop} {a : Act} {w : World} {l : List Oper} (c : Nat) (Ws Ms : List Nat) {N : Nat} (n : Nat) (hm : P.follows .mixedOrders = true) (hN : a.tmps.size = N)
    (hB : flowB l.toArray (ancOf l.toArray) Ws Ms N = true) (hT : tailB l n = true)
    (h : FlowG P l.toArray (Only c w) (extF w) (ancOf l.toArray) Ws Ms (fun a w => wpList P l.toArray Q' (l.drop n) a w) (l.take n) 0 a []) : (Code.region id l.toArray true).wp P Q' a w :=
  wp_region_G_tail (Only c w) (extF w) Ws Ms n hm hN hB hT (fun _ u h => h.ext u) (fun _ u ⟨x, hx⟩ => by rw [hx]; exact ext_ext w x u) (Only.drew_ c w) (ext_drew w) h
/-- A number that the cursor tells, and the cursor behind it. -/
def CurI (S : Nat → Prop) (c : Nat) (s : Cur) (p : Int) : Post := fun v w => v = .int .i64 p ∧ CurAt w S c s
theorem CurI.stable_ {F : World → Prop} {S : Nat → Prop} {c : Nat} {s : Cur} {p : Int} {mem : Bool} (hm : mem = true) : stable F mem (CurI S c s p) :=
  stable_mem hm fun _ w u ⟨hv, h⟩ => ⟨hv, h.ext u⟩
/-- A literal in a block made since. -/
def LitB (B : Nat) (T : TypeId) (us : List Value) (m : Nat) : Post := fun v w => ∃ g, v = .slice (some ⟨g, 0, none⟩) m m ∧ B ≤ g ∧ w.heap[g]? = some (.cells us.toArray T (0, 0))
theorem LitB.stable_ {F : World → Prop} {B : Nat} {T : TypeId} {us : List Value} {m : Nat} {mem : Bool} (hm : mem = true) : stable F mem (LitB B T us m) :=
  stable_mem hm fun _ w u ⟨g, hv, hb, h⟩ => ⟨g, hv, hb, by rw [ext_block w u g (Array.getElem?_eq_some_iff.1 h).1]; exact h⟩
theorem lit_news {w : World} {g : Nat} {T : TypeId} {us : List Value} (h : w.heap[g]? = some (.cells us.toArray T (0, 0))) (j : Nat) (u : Value) (hj : us[j]? = some u) : w.cell? ((⟨g, 0, none⟩ : Addr).add j) = some u := by
  rw [Addr.add_mid, Nat.zero_add, cell_of_row w g _ _ T (0, 0) h]
  simpa using hj
theorem numC_rng {lo hi : Int} (h1 : lo ≤ 0) (h2 : 0 ≤ hi) (s : Cur) : lo ≤ (numC lo hi s).1 ∧ (numC lo hi s).1 ≤ hi := by
  unfold numC
  split
  · split
    · split
      · exact ⟨h1, h2⟩
      · simp only; omega
    · exact ⟨h1, h2⟩
  · exact ⟨h1, h2⟩
/-- What stands while a tile is read: the reader in block R, the tile in block M, the cursor c. -/
structure TAt (w0 W : World) (R M c nb : Nat) (S : Nat → Prop) (kd pr : Int) (v : Value) (l : List Int) (s : Cur) : Prop where
  rdr : W.heap[R]? = some (.cells #[.pointer (some ⟨c, 0, none⟩), .map (some nb)] 62 (0, 0))
  row : W.heap[M]? = some (.cells #[.int .i64 kd, .int .i64 pr, v] 35 (0, 0))
  cur : CurAt W S c s
  own : OwnL W (M + 1) 3 (fun _ => False) v l
  only : Only c w0 W
  o1 : c < R
  o2 : R < M
  o3 : ∀ b, S b → b < R
  o4 : w0.heap.size ≤ R
section
variable {w0 W W' : World} {R M c nb : Nat} {S : Nat → Prop} {kd pr : Int} {v v' : Value} {l l' : List Int} {s s' : Cur}
theorem TAt.rl (h : TAt w0 W R M c nb S kd pr v l s) : R < W.heap.size := (Array.getElem?_eq_some_iff.1 h.rdr).1
theorem TAt.ml (h : TAt w0 W R M c nb S kd pr v l s) : M < W.heap.size := (Array.getElem?_eq_some_iff.1 h.row).1
theorem TAt.call (h : TAt w0 W R M c nb S kd pr v l s) (hon : Only c W W') (hat : CurAt W' S c s') : TAt w0 W' R M c nb S kd pr v l s' where
  rdr := (hon.block R h.rl (by have := h.o1; omega)).trans h.rdr
  row := (hon.block M h.ml (by have := h.o1; have := h.o2; omega)).trans h.row
  cur := hat
  own := h.own.keep hon.size (fun _ hf => hf.elim) fun g hg => hon.block g (h.own.below_ g hg).2 (by have := (h.own.below_ g hg).1; have := h.o1; have := h.o2; omega)
  only := h.only.trans hon
  o1 := h.o1
  o2 := h.o2
  o3 := h.o3
  o4 := h.o4
theorem TAt.ext (h : TAt w0 W R M c nb S kd pr v l s) (u : Ext) : TAt w0 (W.ext u) R M c nb S kd pr v l s := h.call ((Only.refl c W).ext u) (h.cur.ext u)
theorem TAt.alloc (h : TAt w0 W R M c nb S kd pr v l s) (o : Obj) : TAt w0 (W.alloc o) R M c nb S kd pr v l s := h.call ((Only.refl c W).alloc o) (h.cur.alloc o)
theorem TAt.set (h : TAt w0 W R M c nb S kd pr v l s) {j : Nat} {x : Value} {kd' pr' : Int} (hr : (#[.int .i64 kd, .int .i64 pr, v] : Array Value).setIfInBounds j x = #[.int .i64 kd', .int .i64 pr', v']) (hv : OwnL W (M + 1) 3 (fun _ => False) v' l') : TAt w0 (W.setCell ⟨M, j, none⟩ x) R M c nb S kd' pr' v' l' s where
  rdr := (Below.heap_setCell W ⟨M, j, none⟩ x R (by show R ≠ M; have := h.o2; omega)).trans h.rdr
  row := by rw [row_setB h.row, hr]
  cur := h.cur.keep (by simp) (Below.heap_setCell W ⟨M, j, none⟩ x c (by show c ≠ M; have := h.o1; have := h.o2; omega)) fun b hS _ => Below.heap_setCell W ⟨M, j, none⟩ x b (by show b ≠ M; have := h.o3 b hS; have := h.o2; omega)
  own := hv.setCell (fun e => e) (fun e => by have h5 : M + 1 ≤ M := (hv.below_ _ e).1; omega) x
  only := ⟨h.only.os, h.only.tape, h.only.output, by have := h.only.size; simpa using this, fun b hb hc => (Below.heap_setCell W ⟨M, j, none⟩ x b (by show b ≠ M; have := h.o2; have := h.o4; omega)).trans (h.only.block b hb hc)⟩
  o1 := h.o1
  o2 := h.o2
  o3 := h.o3
  o4 := h.o4
/-- What is appended, to the blocks' row or to blocks made since. -/
theorem TAt.grown (h : TAt w0 W R M c nb S kd pr v l s) (hg : W.grownBy W' v.ownBlock) (ho : OwnL W' (M + 1) 3 (fun _ => False) v l) : TAt w0 W' R M c nb S kd pr v l s := by
  have hr : ∀ b, b ≤ M → some b ≠ v.ownBlock := fun b hb e => by have := (h.own.below_ b e.symm).1; omega
  have hk : ∀ b, b < W.heap.size → b ≤ M → W'.heap[b]? = W.heap[b]? := fun b hb hm => hg.block b hb (hr b hm)
  have o1 := h.o1; have o2 := h.o2; have o4 := h.o4; have rl := h.rl; have ml := h.ml
  have hb0 : Below (M + 1) W W' := (Below.refl _ _).grown hg (by omega) (fun r e => (h.own.below_ r e).1)
  exact ⟨(hk R rl (by omega)).trans h.rdr, (hk M ml (by omega)).trans h.row, h.cur.keep hg.size (hk c (by omega) (by omega)) (fun b hS hb => hk b hb (by have := h.o3 b hS; omega)), ho, ⟨hb0.os.trans h.only.os, hb0.tape.trans h.only.tape, hb0.output.trans h.only.output, Nat.le_trans h.only.size hg.size, fun b hb hc => (hk b (by have := h.only.size; omega) (by omega)).trans (h.only.block b hb hc)⟩, o1, o2, h.o3, o4⟩
end
/-- How many words are left, as the cursor's cells tell it. -/
def leftM (c : Nat) (w : World) : Nat := match w.cell? ⟨c, 0, none⟩, w.cell? ⟨c, 1, none⟩ with
  | some (.slice _ n _), some (.int _ e) => if e = 0 then n else 0
  | _, _ => 0
theorem CurAt.leftM_ {w : World} {S : Nat → Prop} {c : Nat} {s : Cur} (h : CurAt w S c s) : leftM c w = leftC s := by
  obtain ⟨A, n, k, k0, k1, _, _, _, hs⟩ := h.at_
  unfold leftM leftC
  rw [k0, k1]
  have := hs.len
  rw [List.length_map] at this
  rw [this]
end Go.Proofs.YtppkanniefignaaGreatDoor
