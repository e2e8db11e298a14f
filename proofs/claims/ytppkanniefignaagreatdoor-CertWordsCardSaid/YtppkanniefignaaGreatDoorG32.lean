/- law28: walks: the reader: unless, its closure, which of the kinds is next. law28: walks: a tile is read. law28: walks: a tile is read. Printed by gen_c8.py. -/
import Derived.Test.YtppkanniefignaaGreatDoorG34
import Derived.Test.YtppkanniefignaaGreatDoorG35
import Derived.Test.YtppkanniefignaaGreatDoorG2
import Derived.Test.YtppkanniefignaaGreatDoorG47
import Derived.Test.YtppkanniefignaaGreatDoorG45
set_option linter.unusedSimpArgs false
set_option linter.unusedVariables false
namespace Go.Proofs.YtppkanniefignaaGreatDoor
open Go.RowKit Go.Maps
section
variable {w : World} {S : Nat → Prop} {c : Nat} {s : Cur}
abbrev rdV (c nb : Nat) : Value := .agg #[.pointer (some ⟨c, 0, none⟩), .map (some nb)]
set_option maxRecDepth 100000 in
set_option maxHeartbeats 4000000 in
theorem unless28_any (h : CurAt w S c s) (nb : Nat) (b : Bool) (x : Int) : Calls Tryz.prog 31 #[rdV c nb, .bool b, .int .i64 x] w (CurP S c w (unlessC b x s) (.tuple #[])) := by
 obtain ⟨W1, hW1⟩ : ∃ W1, w.alloc (.cells #[.pointer (some ⟨c, 0, none⟩), .map (some nb)] 62) = W1 := ⟨_, rfl⟩
 have h1 : CurAt W1 S c s := by rw [← hW1]; exact h.alloc _
 have HO1 := hide (show Only c w W1 by rw [← hW1]; exact (Only.refl c w).alloc _)
 have k0 : W1.cell? ⟨w.heap.size, 0, none⟩ = some (.pointer (some ⟨c, 0, none⟩)) := by rw [← hW1]; exact cell_of_row _ _ _ _ _ (0, 0) (heap_alloc_new w _)
 have hsz : w.heap.size < W1.heap.size := by rw [← hW1]; simp
 have HF := hide (cFail h1 x)
 have HC1 := hide h1
 clear h1 h
 cases b with
 | true =>
  have e : unlessC true x s = s := rfl
  rw [e]
  clear e
  go_enter Tryz.func31, Tryz.ntmps31
  go_wp2_with fail
  go_end0
  exact ⟨rfl, HC1.out, HO1.out⟩
 | false =>
  have e : unlessC false x s = failC x s := rfl
  rw [e]
  clear e
  go_enter Tryz.func31, Tryz.ntmps31
  go_wp2_with (go_at_call 71; (with_reducible refine HF.out.mono ?_); rintro e w2 ⟨rfl, hat, hon⟩)
  go_end0
  exact ⟨rfl, hat, HO1.out.trans hon⟩
set_option maxRecDepth 100000 in
set_option maxHeartbeats 4000000 in
theorem keyf28_any (h : CurAt w S c s) (g : Nat) (hg : w.cell? ⟨g, 0, none⟩ = some (.pointer (some ⟨c, 0, none⟩))) (hgl : g < w.heap.size) (t : ByteArray) : Calls Tryz.prog 74 #[.string t, .pointer (some ⟨g, 0, none⟩)] w (CurP S c w (overC (isC (.nm t) s) s) (.bool (isC (.nm t) s))) := by
 have HK := hide (cKey h t)
 generalize isC (.nm t) s = b at HK ⊢
 clear h
 go_enter Tryz.func74, Tryz.ntmps74
 go_wp2_with (go_at_call 30; (with_reducible refine HK.out.mono ?_); rintro e w2 ⟨rfl, hat, hon⟩)
 go_ret
 exact ⟨rfl, hat, hon⟩
theorem kindC_cons (t : ByteArray) (l : List ByteArray) (k : Nat) (s : Cur) : kindC (t :: l) k s = if isC (.nm t) s = true then (k, popC s) else kindC l (k + 1) s := rfl
set_option maxRecDepth 100000 in
set_option maxHeartbeats 8000000 in
theorem idx28_any (h : CurAt w S c s) (g : Nat) (hg : w.cell? ⟨g, 0, none⟩ = some (.pointer (some ⟨c, 0, none⟩))) (hgl : g < w.heap.size) (hgc : g ≠ c) (S2 : Nat → Prop) (A : Option Addr) (n k0 : Nat) (ts : List ByteArray) (hs : Sl w S2 A n k0 ts) (hS2 : ¬ S2 c) (hn : n ≤ 1000) :
  Calls Tryz.prog 72 #[.slice A n k0, .func (.func 74) #[] #[.pointer (some ⟨g, 0, none⟩)]] w (CurP S c w (kindC ts 1 s).2 (.int .i64 (((kindC ts 1 s).1 : Int) - 1))) := by
 have HC := hide h; have HS := hide hs; have HL := hide hs.len
 have HG := hide hg
 clear h hs hg
 obtain ⟨R, hR⟩ : ∃ R, kindC ts 1 s = R := ⟨_, rfl⟩
 rw [hR]
 have HR0 := hide (show kindC (ts.drop 0) (0 + 1) s = R from hR)
 clear hR
 go_enter Tryz.func72, Tryz.ntmps72
 go_wp2_with fail
 go_loopw [8] (fun i wr => ∃ k : Nat, k ≤ n ∧ i = .int .i64 k ∧ kindC (ts.drop k) (k + 1) s = R ∧ CurAt wr S c s ∧ Only c w wr) (fun i _ => n - (intOf i).toNat)
 case atStart => exact ⟨0, Nat.zero_le _, rfl, HR0.out, HC.out, Only.refl _ _⟩
 case round =>
  obtain ⟨k, hk, rfl, hr, hat, hon⟩ := hrel
  have HR := hide hr; have HAT := hide hat; have HON := hide hon
  clear hr hat
  have hsz := hon.size
  have hgw : wr.cell? ⟨g, 0, none⟩ = some (.pointer (some ⟨c, 0, none⟩)) := (World.cell?_of_block (hon.block g hgl hgc)).trans HG.out
  have hgl2 : g < wr.heap.size := by omega
  by_cases hlt : k < n
  ·obtain ⟨b, off, x, rfl, hb, hx, _, c0⟩ := at_strB (hon.sl HS.out hS2) hlt
   have HX := hide (drop_at hx)
   have HKF := hide (keyf28_any HAT.out g hgw hgl2 x)
   clear hx hon hgw
   have hki : (k : Int) < n := by omega
   cases hb2 : isC (.nm x) s with
   | true =>
    rw [hb2] at HKF
    have HE := hide (show R = (k + 1, popC s) by rw [← HR.out, HX.out, kindC_cons, if_pos hb2])
    clear hb2
    go_wp2_with (go_at_call 74; (with_reducible refine HKF.out.mono ?_); rintro e w2 ⟨rfl, hat2, hon2⟩; have HA2 := hide hat2; have HO2 := hide hon2; clear hat2 hon2)
    go_ret
    rw [HE.out]
    refine ⟨?_, HA2.out, HON.out.trans HO2.out⟩
    show Ending.returned (.int .i64 (k : Int)) = Ending.returned (.int .i64 (((k + 1 : Nat) : Int) - 1))
    rw [show ((k + 1 : Nat) : Int) - 1 = (k : Int) by omega]
   | false =>
    rw [hb2] at HKF
    have HE := hide (show kindC (ts.drop (k + 1)) (k + 1 + 1) s = R by rw [← HR.out, HX.out, kindC_cons, if_neg (by rw [hb2]; decide)])
    clear hb2
    go_wp2_with (go_at_call 74; (with_reducible refine HKF.out.mono ?_); rintro e w2 ⟨rfl, hat2, hon2⟩; have HA2 := hide hat2; have HO2 := hide hon2; clear hat2 hon2)
    go_roundw
    case rel => exact ⟨k + 1, by omega, by go_num, HE.out, HA2.out, HON.out.trans HO2.out⟩
    case measure => simp [intOf]; omega
  ·have hlf : decide ((k : Int) < n) = false := by simp; omega
   have HE := hide (show R = (0, s) by rw [← HR.out, drop_end HL.out hlt]; rfl)
   clear hon hgw
   go_wp2_with fail
   go_ret
   rw [HE.out]
   exact ⟨rfl, HAT.out, HON.out⟩
theorem kinds28_any (w : World) : Calls Tryz.prog 73 #[] w (fun e w' => ∃ A, e = .returned (.slice A 4 4) ∧ Sl w' (fun b => w.heap.size ≤ b) A 4 4 kindsB ∧ ∃ u, w' = w.ext u) := by
 go_enter Tryz.func73, Tryz.ntmps73
 go_wp2_with fail
 go_ret
 refine ⟨_, rfl, Sl.lit (S := fun _ => False) (us := kindsB.map Value.string) rfl ?_ rfl (by decide) (fun _ h => h.elim) (Nat.le_refl _), Below.to_ext ((Below.refl _ _).alloc (Nat.le_refl _) _)⟩
 have key : ∀ l : List ByteArray, (∀ t ∈ l, t.size ≤ maxLen) → RepL w (fun _ => False) l (l.map Value.string) := by
  intro l
  induction l with
  | nil => intro _; rfl
  | cons x l ih => intro h; exact ⟨[.string x], l.map Value.string, rfl, ⟨rfl, h x List.mem_cons_self⟩, ih fun t ht => h t (List.mem_cons_of_mem _ ht)⟩
 refine key _ ?_
 intro t ht
 simp only [kindsB, List.mem_cons, List.not_mem_nil, or_false] at ht
 rcases ht with rfl | rfl | rfl | rfl <;> (unfold maxLen; decide)
end
end Go.Proofs.YtppkanniefignaaGreatDoor
namespace Go.Proofs.YtppkanniefignaaGreatDoor
open Go.RowKit Go.Maps
theorem Only.drew_ (c : Nat) (w : World) : Only c w w.drew := Only.of_below ((Below.refl _ _).drew)
theorem OwnL.lower28 {α : Type} [Rep α] {w : World} {b b' : Nat} {T : TypeId} {S : Nat → Prop} {v : Value} {xs : List α} (h : OwnL w b T S v xs) (hb : b' ≤ b) : OwnL w b' T S v xs := by
 obtain ⟨vals, ⟨l1, l2⟩, hr, ha⟩ := h
 refine ⟨vals, ⟨l1, ?_⟩, hr, ha⟩
 rcases l2 with l2 | ⟨g, cap, cur, e, hg, rest⟩
 ·exact .inl l2
 ·exact .inr ⟨g, cap, cur, e, Nat.le_trans hb hg, rest⟩
theorem wp_region_cur {P : Program} {id : Nat} {Q' : Exit → Act → World → Prop} {a : Act} {w : World} {l : List Oper} (c : Nat) (Ws Ms : List Nat) {N : Nat} (n : Nat) (hm : P.follows .mixedOrders = true) (hN : a.tmps.size = N)
  (hB : flowB l.toArray (ancOf l.toArray) Ws Ms N = true) (hT : tailB l n = true)
  (h : FlowG P l.toArray (Only c w) (extF w) (ancOf l.toArray) Ws Ms (fun a w => wpList P l.toArray Q' (l.drop n) a w) (l.take n) 0 a []) : (Code.region id l.toArray true).wp P Q' a w :=
 wp_region_G_tail (Only c w) (extF w) Ws Ms n hm hN hB hT (fun _ u h => h.ext u) (fun _ u ⟨x, hx⟩ => by rw [hx]; exact ext_ext w x u) (Only.drew_ c w) (ext_drew w) h
def CurI (S : Nat → Prop) (c : Nat) (s : Cur) (p : Int) : Post := fun v w => v = .int .i64 p ∧ CurAt w S c s
theorem CurI.stable_ {F : World → Prop} {S : Nat → Prop} {c : Nat} {s : Cur} {p : Int} {mem : Bool} (hm : mem = true) : stable F mem (CurI S c s p) :=
 stable_mem hm fun _ w u ⟨hv, h⟩ => ⟨hv, h.ext u⟩
def LitB (B : Nat) (T : TypeId) (us : List Value) (m : Nat) : Post := fun v w => ∃ g, v = .slice (some ⟨g, 0, none⟩) m m ∧ B ≤ g ∧ w.heap[g]? = some (.cells us.toArray T (0, 0))
theorem LitB.stable_ {F : World → Prop} {B : Nat} {T : TypeId} {us : List Value} {m : Nat} {mem : Bool} (hm : mem = true) : stable F mem (LitB B T us m) :=
 stable_mem hm fun _ w u ⟨g, hv, hb, h⟩ => ⟨g, hv, hb, by rw [ext_block w u g (Array.getElem?_eq_some_iff.1 h).1]; exact h⟩
theorem lit_news {w : World} {g : Nat} {T : TypeId} {us : List Value} (h : w.heap[g]? = some (.cells us.toArray T (0, 0))) (j : Nat) (u : Value) (hj : us[j]? = some u) : w.cell? ((⟨g, 0, none⟩ : Addr).add j) = some u := by
 rw [Addr.add_mid, Nat.zero_add, cell_of_row w g _ _ T (0, 0) h]
 simpa using hj
theorem numC_rng {lo hi : Int} (h1 : lo ≤ 0) (h2 : 0 ≤ hi) (s : Cur) : lo ≤ (numC lo hi s).1 ∧ (numC lo hi s).1 ≤ hi := by
 unfold numC
 split
 ·split
  ·split
   ·exact ⟨h1, h2⟩
   ·simp only; omega
  ·exact ⟨h1, h2⟩
 ·exact ⟨h1, h2⟩
structure TAt (w0 W : World) (R M c nb : Nat) (S : Nat → Prop) (kd pr : Int) (v : Value) (l : List Int) (s : Cur) : Prop where
 rdr : W.heap[R]? = some (.cells #[.pointer (some ⟨c, 0, none⟩), .map (some nb)] 62 (0, 0))
 row : W.heap[M]? = some (.cells #[.int .i64 kd, .int .i64 pr, v] 35 (0, 0))
 cur : CurAt W S c s
 own : OwnL W (M + 1) 3 (fun _ => False) v l
 only : Only c w0 W
 o1 : c < R
 o2 : R < M
 o3 : ∀ b, S b → b < R
 o4 : w0.heap.size ≤ R
section
variable {w0 W W' : World} {R M c nb : Nat} {S : Nat → Prop} {kd pr : Int} {v v' : Value} {l l' : List Int} {s s' : Cur}
theorem TAt.rl (h : TAt w0 W R M c nb S kd pr v l s) : R < W.heap.size := (Array.getElem?_eq_some_iff.1 h.rdr).1
theorem TAt.ml (h : TAt w0 W R M c nb S kd pr v l s) : M < W.heap.size := (Array.getElem?_eq_some_iff.1 h.row).1
theorem TAt.call (h : TAt w0 W R M c nb S kd pr v l s) (hon : Only c W W') (hat : CurAt W' S c s') : TAt w0 W' R M c nb S kd pr v l s' where
 rdr := (hon.block R h.rl (by have := h.o1; omega)).trans h.rdr
 row := (hon.block M h.ml (by have := h.o1; have := h.o2; omega)).trans h.row
 cur := hat
 own := h.own.keep hon.size (fun _ hf => hf.elim) fun g hg => hon.block g (h.own.below_ g hg).2 (by have := (h.own.below_ g hg).1; have := h.o1; have := h.o2; omega)
 only := h.only.trans hon
 o1 := h.o1
 o2 := h.o2
 o3 := h.o3
 o4 := h.o4
theorem TAt.ext (h : TAt w0 W R M c nb S kd pr v l s) (u : Ext) : TAt w0 (W.ext u) R M c nb S kd pr v l s := h.call ((Only.refl c W).ext u) (h.cur.ext u)
theorem TAt.alloc (h : TAt w0 W R M c nb S kd pr v l s) (o : Obj) : TAt w0 (W.alloc o) R M c nb S kd pr v l s := h.call ((Only.refl c W).alloc o) (h.cur.alloc o)
theorem TAt.set (h : TAt w0 W R M c nb S kd pr v l s) {j : Nat} {x : Value} {kd' pr' : Int} (hr : (#[.int .i64 kd, .int .i64 pr, v] : Array Value).setIfInBounds j x = #[.int .i64 kd', .int .i64 pr', v']) (hv : OwnL W (M + 1) 3 (fun _ => False) v' l') : TAt w0 (W.setCell ⟨M, j, none⟩ x) R M c nb S kd' pr' v' l' s where
 rdr := (Below.heap_setCell W ⟨M, j, none⟩ x R (by show R ≠ M; have := h.o2; omega)).trans h.rdr
 row := by rw [row_setB h.row, hr]
 cur := h.cur.keep (by simp) (Below.heap_setCell W ⟨M, j, none⟩ x c (by show c ≠ M; have := h.o1; have := h.o2; omega)) fun b hS _ => Below.heap_setCell W ⟨M, j, none⟩ x b (by show b ≠ M; have := h.o3 b hS; have := h.o2; omega)
 own := hv.setCell (fun e => e) (fun e => by have h5 : M + 1 ≤ M := (hv.below_ _ e).1; omega) x
 only := ⟨h.only.os, h.only.tape, h.only.output, by have := h.only.size; simpa using this, fun b hb hc => (Below.heap_setCell W ⟨M, j, none⟩ x b (by show b ≠ M; have := h.o2; have := h.o4; omega)).trans (h.only.block b hb hc)⟩
 o1 := h.o1
 o2 := h.o2
 o3 := h.o3
 o4 := h.o4
theorem TAt.grown (h : TAt w0 W R M c nb S kd pr v l s) (hg : W.grownBy W' v.ownBlock) (ho : OwnL W' (M + 1) 3 (fun _ => False) v l) : TAt w0 W' R M c nb S kd pr v l s := by
 have hr : ∀ b, b ≤ M → some b ≠ v.ownBlock := fun b hb e => by have := (h.own.below_ b e.symm).1; omega
 have hk : ∀ b, b < W.heap.size → b ≤ M → W'.heap[b]? = W.heap[b]? := fun b hb hm => hg.block b hb (hr b hm)
 have o1 := h.o1; have o2 := h.o2; have o4 := h.o4; have rl := h.rl; have ml := h.ml
 have hb0 : Below (M + 1) W W' := (Below.refl _ _).grown hg (by omega) (fun r e => (h.own.below_ r e).1)
 exact ⟨(hk R rl (by omega)).trans h.rdr, (hk M ml (by omega)).trans h.row, h.cur.keep hg.size (hk c (by omega) (by omega)) (fun b hS hb => hk b hb (by have := h.o3 b hS; omega)), ho, ⟨hb0.os.trans h.only.os, hb0.tape.trans h.only.tape, hb0.output.trans h.only.output, Nat.le_trans h.only.size hg.size, fun b hb hc => (hk b (by have := h.only.size; omega) (by omega)).trans (h.only.block b hb hc)⟩, o1, o2, h.o3, o4⟩
end
def leftM (c : Nat) (w : World) : Nat := match w.cell? ⟨c, 0, none⟩, w.cell? ⟨c, 1, none⟩ with
 | some (.slice _ n _), some (.int _ e) => if e = 0 then n else 0
 | _, _ => 0
theorem CurAt.leftM_ {w : World} {S : Nat → Prop} {c : Nat} {s : Cur} (h : CurAt w S c s) : leftM c w = leftC s := by
 obtain ⟨A, n, k, k0, k1, _, _, _, hs⟩ := h.at_
 unfold leftM leftC
 rw [k0, k1]
 have := hs.len
 rw [List.length_map] at this
 rw [this]
end Go.Proofs.YtppkanniefignaaGreatDoor
namespace Go.Proofs.YtppkanniefignaaGreatDoor
open Go.RowKit Go.Maps
theorem cells3 {W : World} {M : Nat} {a b d : Value} {T : TypeId} (h : W.heap[M]? = some (.cells #[a, b, d] T (0, 0))) : W.cell? ⟨M, 0, none⟩ = some a ∧ W.cell? ⟨M, 1, none⟩ = some b ∧ W.cell? ⟨M, 2, none⟩ = some d :=
 ⟨cell_of_row W M _ _ _ (0, 0) h, cell_of_row W M _ _ _ (0, 0) h, cell_of_row W M _ _ _ (0, 0) h⟩
theorem kind_le : ∀ (l : List ByteArray) (k : Nat) (s : Cur), (kindC l k s).1 = 0 ∨ (kindC l k s).1 < k + l.length
 | [], _, _ => .inl rfl
 | t :: l, k, s => by
  rw [kindC_cons]
  split
  ·exact .inr (by simp)
  ·rcases kind_le l (k + 1) s with h | h
   ·exact .inl h
   ·exact .inr (by simp; omega)
def TileP (S : Nat → Prop) (c : Nat) (r : Tile × Cur) (w : World) (e : Ending) (w' : World) : Prop :=
 ∃ A n k, e = .returned (.agg #[.int .i64 r.1.kind, .int .i64 r.1.parent, .slice A n k]) ∧ OwnL w' w.heap.size 3 (fun _ => False) (.slice A n k) r.1.blocks ∧ CurAt w' S c r.2 ∧ Only c w w'
set_option maxRecDepth 100000 in
set_option maxHeartbeats 16000000 in
theorem tile28_any (w : World) (S : Nat → Prop) (c nb : Nat) (s : Cur) (h : CurAt w S c s) (hl : leftC s ≤ 1099511627776) : Calls Tryz.prog 32 #[rdV c nb] w (TileP S c (tileC s) w) := by
 obtain ⟨i0, hi, hz, hz1, hz2⟩ := info_parts info_int
 have HI0 := hide hi; have HZ := hide hz; have HZ1 := hide hz1; have HZ2 := hide hz2
 clear hi hz hz1 hz2
 have hlt := h.lt
 obtain ⟨R, hR⟩ : ∃ R, w.heap.size = R := ⟨_, rfl⟩
 obtain ⟨M, hM⟩ : ∃ M, R + 1 = M := ⟨_, rfl⟩
 obtain ⟨S1, hS1⟩ : ∃ S1 : Nat → Prop, S1 = fun b => S b ∧ b < R := ⟨_, rfl⟩
 have HS1 := hide hS1; have HNS := hide h.nS
 have hat0 : CurAt w S1 c s := h.moreS (fun b hb hS => by rw [hS1]; exact ⟨hS, by omega⟩) (by rw [hS1]; exact fun e => h.nS e.1)
 obtain ⟨W1, hW1⟩ : ∃ W1, (w.alloc (.cells #[.pointer (some ⟨c, 0, none⟩), .map (some nb)] 62)).alloc (.cells #[.int .i64 0, .int .i64 0, .slice none 0 0] 35) = W1 := ⟨_, rfl⟩
 have HT1 := hide (show TAt w W1 R M c nb S1 0 0 (.slice none 0 0) [] s from by
  refine ⟨?_, ?_, ?_, OwnL.nil_ _ _ _ _, ?_, by omega, by omega, fun b hb => by rw [hS1] at hb; exact hb.2, by omega⟩
  ·rw [← hW1, Below.heap_alloc _ _ _ (by simp; omega), ← hR]; exact heap_alloc_new w _
  ·have h := heap_alloc_new (w.alloc (.cells #[.pointer (some ⟨c, 0, none⟩), .map (some nb)] 62)) (.cells #[.int .i64 0, .int .i64 0, .slice none 0 0] 35 (0, 0))
   rw [← hW1, ← hM, ← hR]; simpa using h
  ·rw [← hW1]; exact (hat0.alloc _).alloc _
  ·rw [← hW1]; exact ((Only.refl c w).alloc _).alloc _)
 have HSZ := hide hR
 have HMQ := hide hM
 clear h hat0 hS1
 obtain ⟨K, hK⟩ : ∃ K, kindC kindsB 1 s = K := ⟨_, rfl⟩
 obtain ⟨i0', hi0⟩ : ∃ i, (K.1 : Int) - 1 = i := ⟨_, rfl⟩
 have hk4 : K.1 ≤ 4 := by have := kind_le kindsB 1 s; rw [hK] at this; rcases this with h | h; omega; have h : K.1 < 1 + 4 := h; omega
 have hi1 : i0' + 1 = (K.1 : Int) := by omega
 have hib : -1 ≤ i0' ∧ i0' ≤ 3 := by omega
 have HIB := hide hib
 obtain ⟨b0, hb0⟩ : ∃ b, decide (0 ≤ i0') = b := ⟨_, rfl⟩
 have hb1 : b0 = (K.1 != 0) := by
  rw [← hb0, Bool.eq_iff_iff]; simp; omega
 obtain ⟨P, hP⟩ : ∃ P, numC (-1) 199 (unlessC b0 7 K.2) = P := ⟨_, rfl⟩
 obtain ⟨s3, hs3⟩ : ∃ s3, markC [tColon] P.2 = s3 := ⟨_, rfl⟩
 obtain ⟨BB, hBB⟩ : ∃ BB, blocksC ([], s3) = BB := ⟨_, rfl⟩
 have hT : tileC s = (⟨(K.1 : Int), P.1, BB.1⟩, endC BB.2) := by
  unfold tileC
  simp only
  rw [hK, ← hb1, hP, hs3, hBB]
 have hl3 : leftC s3 ≤ 1099511627776 := by
  have h1 := left_kind kindsB 1 s
  have h2 := left_unless (x := 7) (by decide) b0 K.2
  have h3 := left_num (-1) 199 (unlessC b0 7 K.2)
  have h4 := left_mark [tColon] P.2
  rw [hK] at h1; rw [hP] at h3; rw [hs3] at h4
  omega
 have hpr := numC_rng (lo := -1) (hi := 199) (by decide) (by decide) (unlessC b0 7 K.2)
 rw [hP] at hpr
 have HPR := hide hpr
 rw [hT]
 have HKQ := hide hK; have HPQ := hide hP; have HS3 := hide hs3; have HBB := hide hBB; have HL3 := hide hl3; have HB0 := hide hb0; have HI1 := hide hi1; have HIQ := hide hi0
 obtain ⟨kd, hkd⟩ : ∃ kd, (K.1 : Int) = kd := ⟨_, rfl⟩
 rw [hkd] at HI1 ⊢
 have HKD := hide hkd
 clear hT hK hP hs3 hBB hl hl3 hpr hb0 hb1 hi1 hi0 hk4 hkd hib
 go_enter Tryz.func32, Tryz.ntmps32
 go_wp2_with (first | (go_at_call 73; (with_reducible refine (kinds28_any _).mono ?_); rintro e V1 ⟨A1, rfl, hks, u1, hV1⟩; have HV1 := hide hV1; have HKS := hide hks; clear hV1 hks; refine Hd.out ?_))
 have HT2 := hide (show TAt w V1 R M c nb S1 0 0 (.slice none 0 0) [] s from by
  rw [HV1.out]; exact HT1.out.ext u1)
 have HIX := hide (show Calls Tryz.prog 72 #[.slice A1 4 4, .func (.func 74) #[] #[.pointer (some ⟨R, 0, none⟩)]] V1 (CurP S1 c V1 K.2 (.int .i64 i0')) from by
  have hw1 : w.heap.size ≤ V1.heap.size := by have := HT2.out.only.size; omega
  have h := idx28_any HT2.out.cur R (cell_of_row V1 R _ _ _ (0, 0) HT2.out.rdr) HT2.out.rl (by have := HT2.out.o1; omega) (fun b => c < b) A1 4 4 kindsB (HKS.out.more fun b _ hb => by show c < b; have := HT1.out.o1; have := HT1.out.rl; have hb : W1.heap.size ≤ b := hb; omega) (by show ¬ c < c; omega) (by decide)
  rw [HKQ.out, HIQ.out] at h
  exact h)
 clear HT1 HKS HV1 hW1
 try rw [hR]
 refine hide ?_
 go_wp2_with (first | (go_at_call 72; (with_reducible refine HIX.out.mono ?_); rintro e V2 ⟨rfl, hat, hon⟩; have HT3 := hide (HT2.out.call hon hat); clear hat hon; refine Hd.out ?_))
 clear HT2 HIX
 have hb0 := HB0.out
 have r0 : V2.cell? ⟨R, 0, none⟩ = some (.pointer (some ⟨c, 0, none⟩)) := cell_of_row V2 R _ _ _ (0, 0) HT3.out.rdr
 have r1 : V2.cell? ⟨R, 1, none⟩ = some (.map (some nb)) := cell_of_row V2 R _ _ _ (0, 0) HT3.out.rdr
 obtain ⟨m0, m1, m2⟩ := cells3 HT3.out.row
 have fz : ∀ j, V2.frozen? ⟨M, j, none⟩ = false := fun j => by simp [World.frozen?, HT3.out.row]
 have f0 := fz 0
 have f1 := fz 1
 have f2 := fz 2
 have rl := HT3.out.rl
 have ml := HT3.out.ml
 refine hide ?_
 go_wp2_with (first | (go_at_call 31; (with_reducible refine (unless28_any HT3.out.cur nb _ _).mono ?_); rintro e V3 ⟨rfl, hat, hon⟩; have HT4 := hide (show TAt w V3 R M c nb S1 0 0 (.slice none 0 0) [] (unlessC b0 7 K.2) from HT3.out.call hon hat); clear hat hon; refine Hd.out ?_))
 clear r0 r1 m0 m1 m2 fz f0 f1 f2 rl ml
 clear hb0 HT3
 have r0 : V3.cell? ⟨R, 0, none⟩ = some (.pointer (some ⟨c, 0, none⟩)) := cell_of_row V3 R _ _ _ (0, 0) HT4.out.rdr
 have r1 : V3.cell? ⟨R, 1, none⟩ = some (.map (some nb)) := cell_of_row V3 R _ _ _ (0, 0) HT4.out.rdr
 obtain ⟨m0, m1, m2⟩ := cells3 HT4.out.row
 have fz : ∀ j, V3.frozen? ⟨M, j, none⟩ = false := fun j => by simp [World.frozen?, HT4.out.row]
 have f0 := fz 0
 have f1 := fz 1
 have f2 := fz 2
 have rl := HT4.out.rl
 have ml := HT4.out.ml
 obtain ⟨Y1, hY1⟩ : ∃ Y, V3.setCell ⟨M, 0, none⟩ (.int .i64 kd) = Y := ⟨_, rfl⟩
 have HT5 := hide (show TAt w Y1 R M c nb S1 kd 0 (.slice none 0 0) [] (unlessC b0 7 K.2) from by rw [← hY1]; exact HT4.out.set rfl (HT4.out.own))
 have y0 : Y1.cell? ⟨R, 0, none⟩ = some (.pointer (some ⟨c, 0, none⟩)) := cell_of_row Y1 R _ _ _ (0, 0) HT5.out.rdr
 have yl := HT5.out.rl
 have HNM := hide (show Calls Tryz.prog 75 #[.pointer (some ⟨c, 0, none⟩), .int .i64 (-1), .int .i64 199] Y1 (CurP S1 c Y1 P.2 (.int .i64 P.1)) from by have h := cNum HT5.out.cur (-1) 199; rw [HPQ.out] at h; exact h)
 have hi1 := HI1.out
 have hwk : IntKind.i64.wrap kd = kd := IntWalk.i64_in _ (by have := HIB.out; omega)
 refine hide ?_
 go_wp2_with (first | (go_at_call 75; (with_reducible refine HNM.out.mono ?_); rintro e V4 ⟨rfl, hat, hon⟩; have HT6 := hide (HT5.out.call hon hat); clear hat hon; refine Hd.out ?_))
 clear r0 r1 m0 m1 m2 fz f0 f1 f2 rl ml
 clear hY1 y0 yl HNM hi1 hwk HT4 HT5
 have r0 : V4.cell? ⟨R, 0, none⟩ = some (.pointer (some ⟨c, 0, none⟩)) := cell_of_row V4 R _ _ _ (0, 0) HT6.out.rdr
 have r1 : V4.cell? ⟨R, 1, none⟩ = some (.map (some nb)) := cell_of_row V4 R _ _ _ (0, 0) HT6.out.rdr
 obtain ⟨m0, m1, m2⟩ := cells3 HT6.out.row
 have fz : ∀ j, V4.frozen? ⟨M, j, none⟩ = false := fun j => by simp [World.frozen?, HT6.out.row]
 have f0 := fz 0
 have f1 := fz 1
 have f2 := fz 2
 have rl := HT6.out.rl
 have ml := HT6.out.ml
 obtain ⟨Y2, hY2⟩ : ∃ Y, V4.setCell ⟨M, 1, none⟩ (.int .i64 P.1) = Y := ⟨_, rfl⟩
 have HT7 := hide (show TAt w Y2 R M c nb S1 kd P.1 (.slice none 0 0) [] P.2 from by rw [← hY2]; exact HT6.out.set rfl (HT6.out.own))
 have y0 : Y2.cell? ⟨R, 0, none⟩ = some (.pointer (some ⟨c, 0, none⟩)) := cell_of_row Y2 R _ _ _ (0, 0) HT7.out.rdr
 have yl := HT7.out.rl
 have HMK := hide (show Calls Tryz.prog 76 #[.pointer (some ⟨c, 0, none⟩), .slice (some ⟨Y2.heap.size, 0, none⟩) 1 1] (Y2.alloc (.cells #[.string ⟨#[58]⟩] 9)) (CurP S1 c (Y2.alloc (.cells #[.string ⟨#[58]⟩] 9)) s3 (.tuple #[])) from by
  have h := cMark (HT7.out.alloc (.cells #[.string ⟨#[58]⟩] 9)).cur (ts := [tColon]) (Sl.lit (S := fun _ => False) (S' := fun b => c < b) (us := [.string ⟨#[58]⟩]) rfl ⟨[.string ⟨#[58]⟩], [], rfl, ⟨rfl, by unfold maxLen; decide⟩, rfl⟩ rfl (by decide) (fun _ h => h.elim) (by have := HT7.out.o1; omega)) (by show ¬ c < c; omega)
  rw [HS3.out] at h
  exact h)
 refine hide ?_
 go_wp2_with (first | (go_at_call 76; (with_reducible refine HMK.out.mono ?_); rintro e V5 ⟨rfl, hat, hon⟩; have HT8 := hide ((HT7.out.alloc (.cells #[.string ⟨#[58]⟩] 9)).call hon hat); clear hat hon; refine Hd.out ?_))
 clear r0 r1 m0 m1 m2 fz f0 f1 f2 rl ml
 clear hY2 y0 yl HMK HT6 HT7
 have HB8 := hide (show blocksC ([], s3) = BB from HBB.out)
 refine hide ?_
 go_wp2_with fail
 have HL3' := HL3
 go_loopw [] (fun wr => ∃ (A : Option Addr) (n k : Nat) (l : List Int) (s' : Cur), l.length = n ∧ TAt w wr R M c nb S1 kd P.1 (.slice A n k) l s' ∧ blocksC (l, s') = BB ∧ n + leftC s' ≤ 1099511627776) (fun wr => leftM c wr)
 case atStart => exact ⟨none, 0, 0, [], s3, rfl, HT8.out, HB8.out, by have := HL3.out; simpa using this⟩
 case round =>
  obtain ⟨A, n, k, l, s', hn, ht, hbb, hll⟩ := hrel
  have HT := hide ht; have HBQ := hide hbb; have HN := hide hn; have HLL := hide hll
  have HEN := hide (cEnds ht.cur)
  have HLE := hide ht.cur.leftM_
  clear ht hbb hn hll HT8 HB8
  have r0 : wr.cell? ⟨R, 0, none⟩ = some (.pointer (some ⟨c, 0, none⟩)) := cell_of_row wr R _ _ _ (0, 0) HT.out.rdr
  have r1 : wr.cell? ⟨R, 1, none⟩ = some (.map (some nb)) := cell_of_row wr R _ _ _ (0, 0) HT.out.rdr
  obtain ⟨m0, m1, m2⟩ := cells3 HT.out.row
  have fz : ∀ j, wr.frozen? ⟨M, j, none⟩ = false := fun j => by simp [World.frozen?, HT.out.row]
  have f0 := fz 0
  have f1 := fz 1
  have f2 := fz 2
  have rl := HT.out.rl
  have ml := HT.out.ml
  cases he : endsC s' with
  | true =>
   rw [he] at HEN
   have HE := hide (show BB = (l, s') from by rw [← HBQ.out, blocksC_stop (show blockG (l, s') = none from if_pos he)])
   clear he
   have HED := hide (cEnd HT.out.cur)
   go_wp2_with (first | (go_at_call 77; (with_reducible refine HEN.out.mono ?_); rintro e w' ⟨rfl, rfl⟩) | (go_at_call 78; (with_reducible refine HED.out.mono ?_); rintro e V6 ⟨rfl, hat, hon⟩; have HT9 := hide (HT.out.call hon hat); clear hat hon; refine Hd.out ?_))
   clear r0 r1 m0 m1 m2 fz f0 f1 f2 rl ml
   have r0 : V6.cell? ⟨R, 0, none⟩ = some (.pointer (some ⟨c, 0, none⟩)) := cell_of_row V6 R _ _ _ (0, 0) HT9.out.rdr
   have r1 : V6.cell? ⟨R, 1, none⟩ = some (.map (some nb)) := cell_of_row V6 R _ _ _ (0, 0) HT9.out.rdr
   obtain ⟨m0, m1, m2⟩ := cells3 HT9.out.row
   have fz : ∀ j, V6.frozen? ⟨M, j, none⟩ = false := fun j => by simp [World.frozen?, HT9.out.row]
   have f0 := fz 0
   have f1 := fz 1
   have f2 := fz 2
   have rl := HT9.out.rl
   have ml := HT9.out.ml
   refine hide ?_
   go_wp2_with fail
   obtain ⟨Z, hZ⟩ : ∃ Z, ((V6.setCell ⟨M, 0, none⟩ (.int .i64 kd)).setCell ⟨M, 1, none⟩ (.int .i64 P.1)).setCell ⟨M, 2, none⟩ (.slice A n k) = Z := ⟨_, rfl⟩
   have HTZ := hide (show TAt w Z R M c nb S1 kd P.1 (.slice A n k) l (endC s') from by rw [← hZ]; exact ((HT9.out.set rfl HT9.out.own).set rfl (HT9.out.set rfl HT9.out.own).own).set rfl ((HT9.out.set rfl HT9.out.own).set rfl (HT9.out.set rfl HT9.out.own).own).own)
   try rw [hZ]
   clear hZ
   refine bodyPost_ret (results_cell_row Tryz.results32 _ _ M _ _ (0, 0) _ rfl HTZ.out.row Tryz.underlying35 rfl (by kernel_rfl)) rfl ?_
   rw [HE.out]
   exact ⟨A, n, k, rfl, HTZ.out.own.lower28 (by have := HTZ.out.o2; have := HTZ.out.o4; omega), HTZ.out.cur.moreS (fun b _ h => by rw [HS1.out] at h; exact h.1) HNS.out, HTZ.out.only⟩
  | false =>
   rw [he] at HEN
   obtain ⟨b1, hb1⟩ : ∃ b, decide ((n : Int) < 200) = b := ⟨_, rfl⟩
   have hb2 : decide (l.length < 200) = b1 := by rw [← hb1, HN.out, Bool.eq_iff_iff]; simp; omega
   obtain ⟨s1, hs1⟩ : ∃ s1, unlessC b1 3 s' = s1 := ⟨_, rfl⟩
   obtain ⟨q, hq⟩ : ∃ q, numC 0 199 s1 = q := ⟨_, rfl⟩
   have hgo : blockG (l, s') = some (l ++ [q.1], q.2) := by
    unfold blockG
    rw [if_neg (by simp only; rw [he]; decide)]
    simp only
    rw [hb2, hs1, hq]
   have HGO := hide (show blocksC (l ++ [q.1], q.2) = BB from by rw [← HBQ.out, blocksC_go hgo])
   have HDEC := hide (show leftC q.2 < leftC s' from blockG_dec _ _ hgo)
   have HQR := hide (show 0 ≤ q.1 ∧ q.1 ≤ 199 from hq ▸ numC_rng (lo := 0) (hi := 199) (by decide) (by decide) s1)
   have HS1Q := hide hs1; have HQ := hide hq
   clear hgo he hb2 hs1 hq
   go_wp2_with (first | (go_at_call 77; (with_reducible refine HEN.out.mono ?_); rintro e w' ⟨rfl, rfl⟩) | (go_at_call 31; (with_reducible refine (unless28_any HT.out.cur nb _ _).mono ?_); rintro e V6 ⟨rfl, hat, hon⟩; have HT9 := hide (show TAt w V6 R M c nb S1 kd P.1 (.slice A n k) l s1 from HS1Q.out ▸ HT.out.call hon hat); clear hat hon; refine Hd.out ?_))
   clear r0 r1 m0 m1 m2 fz f0 f1 f2 rl ml
   have r0 : V6.cell? ⟨R, 0, none⟩ = some (.pointer (some ⟨c, 0, none⟩)) := cell_of_row V6 R _ _ _ (0, 0) HT9.out.rdr
   have r1 : V6.cell? ⟨R, 1, none⟩ = some (.map (some nb)) := cell_of_row V6 R _ _ _ (0, 0) HT9.out.rdr
   obtain ⟨m0, m1, m2⟩ := cells3 HT9.out.row
   have fz : ∀ j, V6.frozen? ⟨M, j, none⟩ = false := fun j => by simp [World.frozen?, HT9.out.row]
   have f0 := fz 0
   have f1 := fz 1
   have f2 := fz 2
   have rl := HT9.out.rl
   have ml := HT9.out.ml
   have hcM : M ≠ c := by have := HT9.out.o1; have := HT9.out.o2; omega
   refine hide ?_
   go_wp2_with fail
   refine wp_region_cur c [4] [4, 5] 6 (by kernel_rfl) rfl (by kernel_rfl) (by kernel_rfl) ?_
   simp only [List.take_succ_cons, List.take_zero, List.drop_succ_cons, List.drop_zero]
   repeat (refine flowG_known (by kernel_rfl) (fun K hK => ?_); go_simp; (first | (refine hK _ ?_; clear hK K) | (apply Exists.intro; refine ⟨fun w' => ?_, hK _ ?_⟩; (fail); clear hK K)))
   refine flowG_knownF (by kernel_rfl) (fun K hK => ⟨.slice A n k, fun W' hW' => ?_, hK _ ?_⟩)
   ·have x0 : W'.cell? ⟨M, 2, none⟩ = some (.slice A n k) := (World.cell?_of_block (hW'.block M ml hcM)).trans m2
    have x1 : M < W'.heap.size := Nat.lt_of_lt_of_le ml hW'.size
    go_simp
   clear hK K
   repeat (refine flowG_known (by kernel_rfl) (fun K hK => ?_); go_simp; (first | (refine hK _ ?_; clear hK K) | (apply Exists.intro; refine ⟨fun w' => ?_, hK _ ?_⟩; (fail); clear hK K)))
   repeat (refine flowG_known0 (by kernel_rfl) (by kernel_rfl) (fun K hK => ?_); go_simp; (first | (refine hK _ ?_; clear hK K) | (apply Exists.intro; refine ⟨fun _ => ?_, hK _ ?_⟩; (fail); clear hK K)))
   refine flowG_keep [] (CurI S1 c q.2 q.1) (by kernel_rfl) (CurI.stable_ rfl) (by kernel_rfl) (fun u hF => ?_) ?_
   ·try simp only [List.nil_append, List.cons_append, useH_f, useH_t, useH_nil]
    go_simp
    have hnum := cNum (HT9.out.cur.ext u) 0 199
    rw [HQ.out] at hnum
    refine hnum.mono ?_
    rintro e w' ⟨rfl, hat, hon⟩
    exact ⟨_, rfl, ⟨rfl, hat⟩, hF.trans hon, fun h => by cases h⟩
   refine flowG_keepF [true] (LitB V6.heap.size 3 [.int .i64 q.1] 1) (by kernel_rfl) (LitB.stable_ rfl) (fun W' hW' => ?_) ?_
   ·try simp only [List.nil_append, List.cons_append, useH_f, useH_t, useH_nil]
    rintro _ ⟨rfl, hat⟩
    go_simp
    exact ⟨⟨_, rfl, hW'.size, heap_alloc_new W' _⟩, hW'.alloc _, fun _ => ext_alloc W' _⟩
   refine flowG_done [true, true] (by kernel_rfl) (fun W' hW' => ?_)
   simp only [List.nil_append, List.cons_append, endH_f, endH_t, endH_nil]
   rintro _ ⟨rfl, hat⟩ _ ⟨g, rfl, hg, hrow⟩
   go_simp
   have HTW := hide (HT9.out.call hW' hat)
   have HRW := hide hrow
   clear hat hrow
   clear r0 r1 m0 m1 m2 fz f0 f1 f2 rl ml
   have hv9 : 0 ≤ q.1 ∧ q.1 ≤ 199 := HQR.out
   refine wpList_pushK W' rfl (.tmp 33) (.tmp 37) 33 rfl (M + 1) 3 i0 _ 8 Tryz.underlying33 HI0.out HZ.out HZ1.out HZ2.out rfl (.slice A n k) l [q.1] rfl HTW.out.own ⟨g, 0, none⟩ 1 1 rfl rfl (by intro y hy; simp at hy; rw [hy]; unfold InI; omega) (fun j y hj => lit_news HRW.out j _ (by rw [List.getElem?_eq_some_iff] at hj ⊢; obtain ⟨h1, h2⟩ := hj; simp at h1; subst h1; simp at h2; exact ⟨by simp, by simp [h2]⟩)) (by have := HN.out; have := HLL.out; unfold maxLen; omega) (by have := HN.out; have := HLL.out; omega) (by have := HTW.out.ml; omega) ?_
   intro v' W2 ho1 ho2 hgr h5
   have HTG := hide (HTW.out.grown hgr ho2)
   obtain ⟨A', k', rfl⟩ := ho1.form
   have hl1 : (l ++ [q.1]).length = n + 1 := by rw [List.length_append, HN.out]; rfl
   rw [hl1] at ho1 ⊢
   have HO1 := hide ho1
   clear ho1 ho2 hgr h5 hv9
   have r0 : W2.cell? ⟨R, 0, none⟩ = some (.pointer (some ⟨c, 0, none⟩)) := cell_of_row W2 R _ _ _ (0, 0) HTG.out.rdr
   have r1 : W2.cell? ⟨R, 1, none⟩ = some (.map (some nb)) := cell_of_row W2 R _ _ _ (0, 0) HTG.out.rdr
   obtain ⟨m0, m1, m2⟩ := cells3 HTG.out.row
   have fz : ∀ j, W2.frozen? ⟨M, j, none⟩ = false := fun j => by simp [World.frozen?, HTG.out.row]
   have f0 := fz 0
   have f1 := fz 1
   have f2 := fz 2
   have rl := HTG.out.rl
   have ml := HTG.out.ml
   obtain ⟨Y3, hY3⟩ : ∃ Y, W2.setCell ⟨M, 2, none⟩ (.slice A' (n + 1) k') = Y := ⟨_, rfl⟩
   have HTY := hide (show TAt w Y3 R M c nb S1 kd P.1 (.slice A' (n + 1) k') (l ++ [q.1]) q.2 from by rw [← hY3]; exact HTG.out.set rfl HO1.out)
   go_wp2_with fail
   try rw [hY3]
   have HLY := hide HTY.out.cur.leftM_
   clear hY3
   go_roundw
   case rel => exact ⟨A', n + 1, k', l ++ [q.1], q.2, hl1, HTY.out, HGO.out, by have := HLL.out; have := HDEC.out; omega⟩
   case measure => rw [HLY.out, HLE.out]; exact HDEC.out
end Go.Proofs.YtppkanniefignaaGreatDoor
