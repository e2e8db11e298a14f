/- Rows that have all their room: the cells up to a slice's capacity are there. law28: what stands while a certificate is read. law28: how many words a text of a certificate has; what is read of a text that is too long. law28: walks: what cert.Parse answers at a text that is too long. law28: walks: cert.Parse. -/
import Derived.Test.YtppkanniefignaaGreatDoorG2
import Derived.Test.YtppkanniefignaaGreatDoorG33
set_option linter.unusedSimpArgs false
set_option linter.unusedVariables false
namespace Go.Proofs.YtppkanniefignaaGreatDoor
open Go.RowKit
def Room (w : World) (S : Nat → Prop) (sz : Nat) (A : Option Addr) (c : Nat) : Prop :=
 (A = none ∧ c = 0) ∨ ∃ g cur T, A = some ⟨g, 0, none⟩ ∧ S g ∧ g < w.heap.size ∧ w.heap[g]? = some (.cells cur T (0, 0)) ∧ cur.size = c * sz
section
variable {w w' : World} {S S' : Nat → Prop} {sz c : Nat} {A : Option Addr}
theorem Room.keep (h : Room w S sz A c) (hk : ∀ b, S b → b < w.heap.size → w'.heap[b]? = w.heap[b]?) (hs : w.heap.size ≤ w'.heap.size) : Room w' S sz A c := by
 rcases h with h | ⟨g, cur, T, e, h1, h2, h3, h4⟩
 ·exact .inl h
 ·exact .inr ⟨g, cur, T, e, h1, by omega, (hk g h1 h2).trans h3, h4⟩
theorem Room.more (h : Room w S sz A c) (hS : ∀ b, b < w.heap.size → S b → S' b) : Room w S' sz A c := by
 rcases h with h | ⟨g, cur, T, e, h1, h2, h3, h4⟩
 ·exact .inl h
 ·exact .inr ⟨g, cur, T, e, hS g h2 h1, h2, h3, h4⟩
end
theorem OwnL.room {α : Type} [Rep α] {w : World} {base : Nat} {T : TypeId} {S S' : Nat → Prop} {A : Option Addr} {n c : Nat} {xs : List α} (h : OwnL w base T S (.slice A n c) xs) (hS : ∀ b, base ≤ b → b < w.heap.size → S' b) : Room w S' (Rep.size α) A c := by
 obtain ⟨vals, ⟨_, h⟩, _⟩ := h
 rcases h with ⟨e, _⟩ | ⟨g, cap, cur, e, hg, hh, _, _, hsz, _⟩
 ·injection e with e1 e2 e3
  exact .inl ⟨e1, e3⟩
 ·injection e with e1 e2 e3
  subst e1 e2 e3
  have hl := (Array.getElem?_eq_some_iff.1 hh).1
  exact .inr ⟨g, cur, T, rfl, hS g hg hl, hl, hh, hsz⟩
def RowR (α : Type) : Type := List α
instance {α : Type} [Rep α] : Rep (RowR α) where
 size := 1
 is w S x vs := ∃ A n c, vs = [.slice A n c] ∧ Sl w S A n c (x : List α) ∧ Room w S (Rep.size α) A c
 len h := by obtain ⟨A, n, c, rfl, _⟩ := h; rfl
 keep h hs hk := by obtain ⟨A, n, c, e, h1, h2⟩ := h; exact ⟨A, n, c, e, h1.keep hs hk, h2.keep hk hs⟩
 more h hS := by obtain ⟨A, n, c, e, h1, h2⟩ := h; exact ⟨A, n, c, e, h1.more hS, h2.more hS⟩
 one h := by obtain ⟨A, n, c, rfl, _⟩ := h; simp [Value.oneCell']
theorem RepL.rows {α : Type} [Rep α] {w : World} {S : Nat → Prop} : ∀ {xs : List (RowR α)} {vs : List Value}, RepL w S xs vs → RepL (α := List α) w S xs vs
 | [], _, h => h
 | x :: l, vs, ⟨us, ts, e, h1, h2⟩ => ⟨us, ts, e, (by obtain ⟨A, n, c, e, h1, _⟩ := h1; exact ⟨A, n, c, e, h1⟩), RepL.rows h2⟩
theorem OwnL.rows {α : Type} [Rep α] {w : World} {base : Nat} {T : TypeId} {S : Nat → Prop} {v : Value} {xs : List (RowR α)} (h : OwnL w base T S v xs) : OwnL (α := List α) w base T S v xs := by
 obtain ⟨vals, h1, h2, h3⟩ := h
 exact ⟨vals, h1, h2.rows, h3⟩
end Go.Proofs.YtppkanniefignaaGreatDoor
namespace Go.Proofs.YtppkanniefignaaGreatDoor
open Go.RowKit Go.Maps
def TileR : Type := Tile
instance : Rep TileR where
 size := 3
 is w S x vs := ∃ A n c, vs = [.int .i64 (Tile.kind x), .int .i64 (Tile.parent x), .slice A n c] ∧ InI (Tile.kind x) ∧ InI (Tile.parent x) ∧ Sl w S A n c (Tile.blocks x) ∧ Room w S 1 A c
 len h := by obtain ⟨A, n, c, rfl, _⟩ := h; rfl
 keep h hs hk := by obtain ⟨A, n, c, e, h1, h2, h3, h4⟩ := h; exact ⟨A, n, c, e, h1, h2, h3.keep hs hk, h4.keep hk hs⟩
 more h hS := by obtain ⟨A, n, c, e, h1, h2, h3, h4⟩ := h; exact ⟨A, n, c, e, h1, h2, h3.more hS, h4.more hS⟩
 one h := by obtain ⟨A, n, c, rfl, _⟩ := h; simp [Value.oneCell']
theorem RepL.tiles {w : World} {S : Nat → Prop} : ∀ {xs : List TileR} {vs : List Value}, RepL w S xs vs → RepL (α := Tile) w S xs vs
 | [], _, h => h
 | x :: l, vs, ⟨us, ts, e, h1, h2⟩ => ⟨us, ts, e, (by obtain ⟨A, n, c, e, h1, h2, h3, _⟩ := h1; subst e; exact Tile.mk_ h1 h2 h3), RepL.tiles h2⟩
theorem OwnL.tiles {w : World} {base : Nat} {T : TypeId} {S : Nat → Prop} {v : Value} {xs : List TileR} (h : OwnL w base T S v xs) : OwnL (α := Tile) w base T S v xs := by
 obtain ⟨vals, h1, h2, h3⟩ := h
 exact ⟨vals, h1, h2.tiles, h3⟩
structure CB (w0 W : World) (C R c nb : Nat) (S : Nat → Prop) (vt vf : Value) (s : Cur) : Prop where
 row : W.heap[C]? = some (.cells #[vt, vf] 26 (0, 0))
 rdr : W.heap[R]? = some (.cells #[.pointer (some ⟨c, 0, none⟩), .map (some nb)] 62 (0, 0))
 cur : CurAt W S c s
 low : Below C w0 W
 nm : Names W nb
 o1 : C < c
 o2 : c < nb
 o3 : nb < R
 o4 : ∀ b, S b → C < b ∧ b < R
section
variable {w0 W W' : World} {C R c nb D D' : Nat} {S St St' Sf Sf' : Nat → Prop} {vt vt' vf vf' : Value} {lt lt' : List TileR} {lf lf' : List (RowR Fact)} {s s' : Cur}
theorem CB.rl (h : CB w0 W C R c nb S vt vf s) : R < W.heap.size := (Array.getElem?_eq_some_iff.1 h.rdr).1
theorem CB.cl (h : CB w0 W C R c nb S vt vf s) : C < W.heap.size := (Array.getElem?_eq_some_iff.1 h.row).1
theorem CB.call (h : CB w0 W C R c nb S vt vf s) (hon : Only c W W') (hat : CurAt W' S c s') : CB w0 W' C R c nb S vt vf s' where
 row := (hon.block C h.cl (by have := h.o1; omega)).trans h.row
 rdr := (hon.block R h.rl (by have := h.o2; have := h.o3; omega)).trans h.rdr
 cur := hat
 low := h.low.trans (hon.below (by have := h.o1; omega) (by have := h.cl; omega))
 nm := h.nm.keep (hon.block nb (by have := h.o3; have := h.rl; omega) (by have := h.o2; omega))
 o1 := h.o1
 o2 := h.o2
 o3 := h.o3
 o4 := h.o4
theorem CB.set (h : CB w0 W C R c nb S vt vf s) {j : Nat} {x : Value} (hr : (#[vt, vf] : Array Value).setIfInBounds j x = #[vt', vf']) : CB w0 (W.setCell ⟨C, j, none⟩ x) C R c nb S vt' vf' s where
 row := by rw [row_setB h.row, hr]
 rdr := (Below.heap_setCell W ⟨C, j, none⟩ x R (by show R ≠ C; have := h.o1; have := h.o2; have := h.o3; omega)).trans h.rdr
 cur := h.cur.keep (by simp) (Below.heap_setCell W ⟨C, j, none⟩ x c (by show c ≠ C; have := h.o1; omega)) fun b hS _ => Below.heap_setCell W ⟨C, j, none⟩ x b (by show b ≠ C; have := (h.o4 b hS).1; omega)
 low := h.low.setCell (p := ⟨C, j, none⟩) (Nat.le_refl _) x
 nm := h.nm.keep (Below.heap_setCell W ⟨C, j, none⟩ x nb (by show nb ≠ C; have := h.o1; have := h.o2; omega))
 o1 := h.o1
 o2 := h.o2
 o3 := h.o3
 o4 := h.o4
theorem CB.grown {row : Option Nat} (h : CB w0 W C R c nb S vt vf s) (hg : W.grownBy W' row) (hr : ∀ g, row = some g → R < g) : CB w0 W' C R c nb S vt vf s := by
 have hk : ∀ b, b < W.heap.size → b ≤ R → W'.heap[b]? = W.heap[b]? := fun b hb hm => hg.block b hb (fun e => by have := hr b e.symm; omega)
 have o1 := h.o1; have o2 := h.o2; have o3 := h.o3; have rl := h.rl
 have hb0 : Below (R + 1) W W' := (Below.refl _ _).grown hg (by omega) (fun r e => hr r e)
 exact ⟨(hk C h.cl (by omega)).trans h.row, (hk R rl (Nat.le_refl _)).trans h.rdr, h.cur.keep hg.size (hk c (by omega) (by omega)) (fun b hS hb => hk b hb (by have := (h.o4 b hS).2; omega)), h.low.trans (hb0.mono (by omega)), h.nm.keep (hk nb (by omega) (by omega)), o1, o2, o3, h.o4⟩
structure CAt (w0 W : World) (C R c nb D : Nat) (S St Sf : Nat → Prop) (vt vf : Value) (lt : List TileR) (lf : List (RowR Fact)) (s : Cur) : Prop where
 cb : CB w0 W C R c nb S vt vf s
 ot : OwnL W (R + 1) 35 St vt lt
 of : OwnL W (R + 1) 37 Sf vf lf
 st : ∀ b, St b → R < b ∧ b < D
 sf : ∀ b, Sf b → R < b ∧ D ≤ b ∧ b < W.heap.size
 tb : ∀ b, vt.ownBlock = some b → b < D
 fb : ∀ b, vf.ownBlock = some b → D ≤ b
 d : D ≤ W.heap.size
theorem CAt.call (h : CAt w0 W C R c nb D S St Sf vt vf lt lf s) (hon : Only c W W') (hat : CurAt W' S c s') : CAt w0 W' C R c nb D S St Sf vt vf lt lf s' where
 cb := h.cb.call hon hat
 ot := h.ot.keep hon.size (fun b hb hl => hon.block b hl (by have := (h.st b hb).1; have := h.cb.o2; have := h.cb.o3; omega)) fun g hg => hon.block g (h.ot.below_ g hg).2 (by have := (h.ot.below_ g hg).1; have := h.cb.o2; have := h.cb.o3; omega)
 of := h.of.keep hon.size (fun b hb hl => hon.block b hl (by have := (h.sf b hb).1; have := h.cb.o2; have := h.cb.o3; omega)) fun g hg => hon.block g (h.of.below_ g hg).2 (by have := (h.of.below_ g hg).1; have := h.cb.o2; have := h.cb.o3; omega)
 st := h.st
 sf := fun b hb => ⟨(h.sf b hb).1, (h.sf b hb).2.1, Nat.lt_of_lt_of_le (h.sf b hb).2.2 hon.size⟩
 tb := h.tb
 fb := h.fb
 d := Nat.le_trans h.d hon.size
theorem CAt.ext (h : CAt w0 W C R c nb D S St Sf vt vf lt lf s) (u : Ext) : CAt w0 (W.ext u) C R c nb D S St Sf vt vf lt lf s := h.call ((Only.refl c W).ext u) (h.cb.cur.ext u)
theorem CAt.push0 (h : CAt w0 W C R c nb D S St (fun _ => False) vt (.slice none 0 0) lt [] s) (hg : W.grownBy W' vt.ownBlock) (ho : OwnL W' (R + 1) 35 St' vt' lt') (st : ∀ b, St' b → R < b ∧ b < W'.heap.size) : CAt w0 (W'.setCell ⟨C, 0, none⟩ vt') C R c nb W'.heap.size S St' (fun _ => False) vt' (.slice none 0 0) lt' [] s where
 cb := (h.cb.grown hg (fun g e => (h.ot.below_ g e).1)).set rfl
 ot := ho.setCell (fun e => by have h5 : R < C := (st _ e).1; have := h.cb.o1; have := h.cb.o2; have := h.cb.o3; omega) (fun e => by have h5 : R + 1 ≤ C := (ho.below_ _ e).1; have := h.cb.o1; have := h.cb.o2; have := h.cb.o3; omega) _
 of := OwnL.nil_ _ _ _ _
 st := st
 sf := fun _ h => h.elim
 tb := fun b hb => (ho.below_ b hb).2
 fb := fun _ h => by simp [Value.ownBlock] at h
 d := by simp
theorem CAt.push1 (h : CAt w0 W C R c nb D S St Sf vt vf lt lf s) (hg : W.grownBy W' vf.ownBlock) (ho : OwnL W' (R + 1) 37 Sf' vf' lf') (sf : ∀ b, Sf' b → R < b ∧ D ≤ b ∧ b < W'.heap.size) (fb : ∀ b, vf'.ownBlock = some b → D ≤ b) : CAt w0 (W'.setCell ⟨C, 1, none⟩ vf') C R c nb D S St Sf' vt vf' lt lf' s where
 cb := (h.cb.grown hg (fun g e => (h.of.below_ g e).1)).set rfl
 ot := (h.ot.keep hg.size (fun b hb hl => hg.block b hl (fun e => by have := h.fb b e.symm; have := (h.st b hb).2; omega)) fun g hgt => hg.block g (h.ot.below_ g hgt).2 (fun e => by have := h.fb g e.symm; have := h.tb g hgt; omega)).setCell (fun e => by have h5 : R < C := (h.st _ e).1; have := h.cb.o1; have := h.cb.o2; have := h.cb.o3; omega) (fun e => by have h5 : R + 1 ≤ C := (h.ot.below_ _ e).1; have := h.cb.o1; have := h.cb.o2; have := h.cb.o3; omega) _
 of := ho.setCell (fun e => by have h5 : R < C := (sf _ e).1; have := h.cb.o1; have := h.cb.o2; have := h.cb.o3; omega) (fun e => by have h5 : R + 1 ≤ C := (ho.below_ _ e).1; have := h.cb.o1; have := h.cb.o2; have := h.cb.o3; omega) _
 st := h.st
 sf := fun b hb => by have := sf b hb; simpa using this
 tb := h.tb
 fb := fb
 d := by have := h.d; have := hg.size; simp; omega
theorem CAt.again (h : CAt w0 W C R c nb D S St Sf vt vf lt lf s) {j : Nat} {x : Value} (hr : (#[vt, vf] : Array Value).setIfInBounds j x = #[vt, vf]) : CAt w0 (W.setCell ⟨C, j, none⟩ x) C R c nb D S St Sf vt vf lt lf s where
 cb := h.cb.set hr
 ot := h.ot.setCell (fun e => by have h5 : R < C := (h.st _ e).1; have := h.cb.o1; have := h.cb.o2; have := h.cb.o3; omega) (fun e => by have h5 : R + 1 ≤ C := (h.ot.below_ _ e).1; have := h.cb.o1; have := h.cb.o2; have := h.cb.o3; omega) _
 of := h.of.setCell (fun e => by have h5 : R < C := (h.sf _ e).1; have := h.cb.o1; have := h.cb.o2; have := h.cb.o3; omega) (fun e => by have h5 : R + 1 ≤ C := (h.of.below_ _ e).1; have := h.cb.o1; have := h.cb.o2; have := h.cb.o3; omega) _
 st := h.st
 sf := fun b hb => by have := h.sf b hb; simpa using this
 tb := h.tb
 fb := h.fb
 d := by have := h.d; simpa using this
theorem CB.cells (h : CB w0 W C R c nb S vt vf s) : W.cell? ⟨C, 0, none⟩ = some vt ∧ W.cell? ⟨C, 1, none⟩ = some vf ∧ W.cell? ⟨R, 0, none⟩ = some (.pointer (some ⟨c, 0, none⟩)) ∧ W.cell? ⟨R, 1, none⟩ = some (.map (some nb)) :=
 ⟨cell_of_row W C _ _ _ (0, 0) h.row, cell_of_row W C _ _ _ (0, 0) h.row, cell_of_row W R _ _ _ (0, 0) h.rdr, cell_of_row W R _ _ _ (0, 0) h.rdr⟩
theorem CB.fz (h : CB w0 W C R c nb S vt vf s) (j : Nat) : W.frozen? ⟨C, j, none⟩ = false := by simp [World.frozen?, h.row]
end
theorem tileC_in (s : Cur) : InI (tileC s).1.kind ∧ InI (tileC s).1.parent := by
 unfold tileC
 simp only
 have h1 := kind_le kindsB 1 s
 have h2 := numC_rng (lo := -1) (hi := 199) (by decide) (by decide) (unlessC ((kindC kindsB 1 s).1 != 0) 7 (kindC kindsB 1 s).2)
 have h3 : kindsB.length = 4 := rfl
 unfold InI
 omega
end Go.Proofs.YtppkanniefignaaGreatDoor
namespace Go.Proofs.YtppkanniefignaaGreatDoor
open Go.RowKit Go.Maps
theorem overT_len28 (s : ByteArray) (hs : s.size ≤ 262144) : leftC (overT s) ≤ 1099511627770 := by
 have h0 : (readR s).words.length ≤ 1099511627770 := by
  by_cases he : (readR s).err = 0
  ·obtain ⟨ws, _, hR, _, _, ht⟩ := read_lexes he
   rw [hR]
   have := totL_len2 ws
   show ws.length ≤ _; omega
  ·rw [(read_err s he).1]; simp
 have h1 : (overT s).ws.length ≤ 1099511627770 := by
  unfold overT
  split
  ·exact Nat.zero_le _
  ·have h2 := compK_len (readR s).words true
   have h3 : (dropEnd (compK true (readR s).words)).length ≤ (compK true (readR s).words).length := by
    unfold dropEnd
    split
    ·split
     ·simp
     ·exact Nat.le_refl _
    ·exact Nat.le_refl _
   simp only
   omega
 unfold leftC
 split <;> omega
end Go.Proofs.YtppkanniefignaaGreatDoor
namespace Go.Proofs.YtppkanniefignaaGreatDoor
open Go.RowKit Go.Maps
theorem size_cert : (Tryz.prog.info? 26).map (·.size) = some 2 := by kernel_rfl
theorem results_cell_tmp3 {P : Program} {fn : Func} {p t1 t2 t3 : Tmp} {ty : TypeId} {a : Addr} {v : Value} (h : fn.results = #[.cell p ty, .tmp t1, .tmp t2, .tmp t3]) (tmps : Array Value) (w : World)
  (hp : tmps.getD p undef = .pointer (some a)) (hl : (loadVar ty a).run P w = .ok v w) : (results fn tmps).run P w = .ok (.tuple #[v, tmps.getD t1 undef, tmps.getD t2 undef, tmps.getD t3 undef]) w := by
 have hp' : tmps[p]?.getD undef = .pointer (some a) := by simpa using hp
 simp [results, h, hp', asAddr, hl]
theorem results_cert {fn : Func} {p t1 t2 t3 : Tmp} {g : Nat} {a1 a2 : Value} (h : fn.results = #[.cell p 26, .tmp t1, .tmp t2, .tmp t3]) (tmps : Array Value) (w : World)
  (hp : tmps.getD p undef = .pointer (some ⟨g, 0, none⟩)) (hg : w.heap[g]? = some (.cells #[a1, a2] 26 (0, 0))) : (results fn tmps).run Tryz.prog w = .ok (.tuple #[.agg #[a1, a2], tmps.getD t1 undef, tmps.getD t2 undef, tmps.getD t3 undef]) w :=
 results_cell_tmp3 h tmps w hp (run_loadVar_row w g _ _ _ (0, 0) _ hg Tryz.underlying26 rfl size_cert)
set_option maxRecDepth 100000 in
set_option maxHeartbeats 8000000 in
theorem parse28_long (s : ByteArray) (w : World) (hbig : 262144 < s.size) : Calls Tryz.prog 8 #[.string s] w (fun e w' => e = .returned (.tuple #[.agg #[.slice none 0 0, .slice none 0 0], .int .i64 0, .int .i64 0, .int .i64 3]) ∧ Below w.heap.size w w') := by
 go_enter Tryz.func8, Tryz.ntmps8
 go_wp2_with fail
 exact bodyPost_ret (results_cert Tryz.results8 _ _ rfl (heap_alloc_new w _)) rfl ⟨rfl, (Below.refl _ _).alloc (Nat.le_refl _) _⟩
end Go.Proofs.YtppkanniefignaaGreatDoor
namespace Go.Proofs.YtppkanniefignaaGreatDoor
open Go.RowKit Go.Maps
structure CertO (w w' : World) (A : Option Addr) (n k : Nat) (B : Option Addr) (m j D : Nat) (St Sf : Nat → Prop) (c : Cert) : Prop where
 ot : OwnL (α := TileR) w' w.heap.size 35 St (.slice A n k) c.tiles
 of : OwnL (α := RowR Fact) w' w.heap.size 37 Sf (.slice B m j) c.facts
 st : ∀ b, St b → w.heap.size ≤ b ∧ b < D
 sf : ∀ b, Sf b → w.heap.size ≤ b ∧ D ≤ b ∧ b < w'.heap.size
 tb : ∀ b, (Value.slice A n k).ownBlock = some b → b < D
 fb : ∀ b, (Value.slice B m j).ownBlock = some b → D ≤ b
 d : D ≤ w'.heap.size
def CertP (r : Cert × Int × Int × Int) (w : World) (e : Ending) (w' : World) : Prop :=
 ∃ A n k B m j D St Sf, e = .returned (.tuple #[.agg #[.slice A n k, .slice B m j], .int .i64 r.2.1, .int .i64 r.2.2.1, .int .i64 r.2.2.2]) ∧ CertO w w' A n k B m j D St Sf r.1 ∧ Below w.heap.size w w'
theorem CertO.none_ (w w' : World) (h : w.heap.size ≤ w'.heap.size) : CertO w w' none 0 0 none 0 0 w'.heap.size (fun _ => False) (fun _ => False) ⟨[], []⟩ :=
 ⟨OwnL.nil_ _ _ _ _, OwnL.nil_ _ _ _ _, fun _ h => h.elim, fun _ h => h.elim, fun _ h => by simp [Value.ownBlock] at h, fun _ h => by simp [Value.ownBlock] at h, Nat.le_refl _⟩
theorem info_Tile28 : (Tryz.prog.info? 35).map (fun i => (i.zero, i.size, i.bytes)) = some (some (.agg #[.int .i64 0, .int .i64 0, .slice none 0 0]), 3, 40) := by kernel_rfl
theorem info_Facts28 : (Tryz.prog.info? 37).map (fun i => (i.zero, i.size, i.bytes)) = some (some (.slice none 0 0), 1, 24) := by kernel_rfl
def TileI (S : Nat → Prop) (c B : Nat) (q : Tile × Cur) : Post := fun v w => ∃ A n k, v = .agg #[.int .i64 q.1.kind, .int .i64 q.1.parent, .slice A n k] ∧ OwnL w B 3 (fun _ => False) (.slice A n k) q.1.blocks ∧ CurAt w S c q.2
theorem TileI.stable_ {F : World → Prop} {S : Nat → Prop} {c B : Nat} {q : Tile × Cur} {mem : Bool} (hm : mem = true) : stable F mem (TileI S c B q) :=
 stable_mem hm fun _ w u ⟨A, n, k, hv, h1, h2⟩ => ⟨A, n, k, hv, h1.ext u, h2.ext u⟩
def FactsI (S : Nat → Prop) (c B : Nat) (q : List Fact × Cur) : Post := fun v w => ∃ A n k, v = .slice A n k ∧ OwnL w B 42 (fun _ => False) (.slice A n k) q.1 ∧ CurAt w S c q.2
theorem FactsI.stable_ {F : World → Prop} {S : Nat → Prop} {c B : Nat} {q : List Fact × Cur} {mem : Bool} (hm : mem = true) : stable F mem (FactsI S c B q) :=
 stable_mem hm fun _ w u ⟨A, n, k, hv, h1, h2⟩ => ⟨A, n, k, hv, h1.ext u, h2.ext u⟩
def TileL (S : Nat → Prop) (c B : Nat) (q : Tile × Cur) : Post := fun v w => ∃ g A n k, v = .slice (some ⟨g, 0, none⟩) 1 1 ∧ B ≤ g ∧ w.heap[g]? = some (.cells #[.int .i64 q.1.kind, .int .i64 q.1.parent, .slice A n k] 35 (0, 0)) ∧ OwnL w B 3 (fun _ => False) (.slice A n k) q.1.blocks ∧ CurAt w S c q.2
theorem TileL.stable_ {F : World → Prop} {S : Nat → Prop} {c B : Nat} {q : Tile × Cur} {mem : Bool} (hm : mem = true) : stable F mem (TileL S c B q) :=
 stable_mem hm fun _ w u ⟨g, A, n, k, hv, hg, h0, h1, h2⟩ => ⟨g, A, n, k, hv, hg, (by rw [ext_block w u g (Array.getElem?_eq_some_iff.1 h0).1]; exact h0), h1.ext u, h2.ext u⟩
def FactsB (S : Nat → Prop) (c B : Nat) (q : List Fact × Cur) : Post := fun v w => ∃ g A n k, v = .slice (some ⟨g, 0, none⟩) 1 1 ∧ B ≤ g ∧ w.heap[g]? = some (.cells #[.slice A n k] 37 (0, 0)) ∧ OwnL w B 42 (fun _ => False) (.slice A n k) q.1 ∧ CurAt w S c q.2
theorem FactsB.stable_ {F : World → Prop} {S : Nat → Prop} {c B : Nat} {q : List Fact × Cur} {mem : Bool} (hm : mem = true) : stable F mem (FactsB S c B q) :=
 stable_mem hm fun _ w u ⟨g, A, n, k, hv, hg, h0, h1, h2⟩ => ⟨g, A, n, k, hv, hg, (by rw [ext_block w u g (Array.getElem?_eq_some_iff.1 h0).1]; exact h0), h1.ext u, h2.ext u⟩
set_option maxRecDepth 100000 in
set_option maxHeartbeats 32000000 in
theorem parse28_any (s : ByteArray) (w : World) (hv : VarsP w) : Calls Tryz.prog 8 #[.string s] w (CertP (parse28 s) w) := by
 by_cases hbig : 262144 < s.size
 ·have hg : parse28 s = (⟨[], []⟩, 0, 0, 3) := by unfold parse28; rw [if_pos hbig]
  rw [hg]
  refine (parse28_long s w hbig).mono ?_
  rintro e w' ⟨rfl, hb⟩
  exact ⟨none, 0, 0, none, 0, 0, _, _, _, rfl, CertO.none_ _ _ hb.size, hb⟩
 obtain ⟨i0, hi, hz, hz1, hz2⟩ := info_parts info_Tile28
 have HI0 := hide hi; have HZ := hide hz; have HZ1 := hide hz1; have HZ2 := hide hz2
 clear hi hz hz1 hz2
 obtain ⟨i1, hi, hz, hz1, hz2⟩ := info_parts info_Facts28
 have HI1 := hide hi; have HY := hide hz; have HY1 := hide hz1; have HY2 := hide hz2
 clear hi hz hz1 hz2
 have hs : s.size ≤ 262144 := by omega
 have hl := overT_len28 s hs
 obtain ⟨C, hC⟩ : ∃ C, w.heap.size = C := ⟨_, rfl⟩
 obtain ⟨W0, hW0⟩ : ∃ W0, w.alloc (.cells #[.slice none 0 0, .slice none 0 0] 26) = W0 := ⟨_, rfl⟩
 have HV0 := hide (show VarsP W0 from by rw [← hW0]; exact hv.below ((Below.refl w.heap.size w).alloc (Nat.le_refl _) _) hv.v.sz)
 have HOV := hide (show Calls Tryz.prog 28 #[.string s] W0 (OverP s W0) from cOver1 s W0 (by omega) HV0.out.v)
 obtain ⟨X, hX⟩ : ∃ X, tilesC ([], overT s) = X := ⟨_, rfl⟩
 obtain ⟨Y, hY⟩ : ∃ Y, edgesC ([], X.2) = Y := ⟨_, rfl⟩
 have hp : parse28 s = if (errC Y.2).2.2 ≠ 0 then (⟨[], []⟩, errC Y.2) else (⟨X.1, Y.1⟩, 0, 0, 0) := by
  unfold parse28 certC
  rw [if_neg hbig]
  simp only
  rw [hX, hY]
 obtain ⟨Z, hZ⟩ : ∃ Z, parse28 s = Z := ⟨_, rfl⟩
 rw [hZ] at hp ⊢
 have HPZ := hide hp
 clear hZ
 have HXQ := hide hX; have HYQ := hide hY; have HLQ := hide hl
 clear hp hX hY hl hv
 go_enter Tryz.func8, Tryz.ntmps8
 go_wp2_with (first
  | (go_at_call 28; (with_reducible refine HOV.out.mono ?_); rintro e V1 ⟨rfl, hat, hb1⟩; have HV1 := hide (HV0.out.below hb1 (by have := HV0.out.v.sz; omega)); have HAT := hide hat; have HB1 := hide hb1; clear hat hb1)
  | (go_at_call 29; (with_reducible refine (names28_any _ HV1.out).mono ?_); rintro e V2 ⟨nb, rfl, hnm, hnb, hb2⟩; have HNM := hide hnm; have HNB := hide hnb; have HB2 := hide hb2; clear hnm hnb hb2))
 obtain ⟨c, hc⟩ : ∃ c, W0.heap.size = c := ⟨_, rfl⟩
 obtain ⟨R, hR⟩ : ∃ R, V2.heap.size = R := ⟨_, rfl⟩
 obtain ⟨W3, hW3⟩ : ∃ W3, V2.alloc (.cells #[.pointer (some ⟨c, 0, none⟩), .map (some nb)] 62) = W3 := ⟨_, rfl⟩
 obtain ⟨S0, hS0⟩ : ∃ S0 : Nat → Prop, S0 = fun b => c < b ∧ b < V1.heap.size := ⟨_, rfl⟩
 have hz0 : C + 1 = c := by rw [← hc, ← hW0, ← hC]; simp
 have hz1 : c < V1.heap.size := by rw [← hc]; exact HAT.out.lt
 have hz2 : V1.heap.size ≤ V2.heap.size := HB2.out.size
 have HC := hide (show CAt w W3 C R c nb W3.heap.size S0 (fun _ => False) (fun _ => False) (.slice none 0 0) (.slice none 0 0) [] [] (overT s) from by
  have hnl := HNM.out.lt
  have hnb := HNB.out
  have hb1 := HB1.out; have hb2 := HB2.out; have hat := HAT.out
  rw [hc] at hb1 hat
  rw [← hS0] at hat
  refine ⟨⟨?_, ?_, ?_, ?_, ?_, by omega, by omega, by omega, fun b h => by rw [hS0] at h; omega⟩, OwnL.nil_ _ _ _ _, OwnL.nil_ _ _ _ _, fun _ h => h.elim, fun _ h => h.elim, fun _ h => by simp [Value.ownBlock] at h, fun _ h => by simp [Value.ownBlock] at h, Nat.le_refl _⟩
  ·rw [← hW3, Below.heap_alloc _ _ _ (by omega), hb2.block C (by omega), hb1.block C (by omega), ← hW0, ← hC]; exact heap_alloc_new w _
  ·rw [← hW3, ← hR]; exact heap_alloc_new V2 _
  ·rw [← hW3]; exact (hat.below hb2).alloc _
  ·have hb0 : Below C w W0 := by rw [← hW0, ← hC]; exact (Below.refl _ _).alloc (Nat.le_refl _) _
   rw [← hW3]
   exact (hb0.trans ((hb1.mono (by omega)).trans (hb2.mono (by omega)))).alloc (by omega) _
  ·rw [← hW3]; exact HNM.out.alloc _)
 have HCQ := hide hC
 try rw [hC]
 try rw [hc]
 try rw [hR]
 try rw [hW3]
 clear hz0 hz1 hz2 hC hc hR hW3 hS0 HNM HNB HB1 HB2 HAT HV0 HV1 HOV hW0
 go_loopw [] (fun wr => ∃ (A : Option Addr) (n k : Nat) (l : List Tile) (s' : Cur) (D : Nat) (St : Nat → Prop), l.length = n ∧ CAt w wr C R c nb D S0 St (fun _ => False) (.slice A n k) (.slice none 0 0) l [] s' ∧ tilesC (l, s') = X ∧ n + leftC s' ≤ 1099511627770) (fun wr => leftM c wr)
 case atStart => exact ⟨none, 0, 0, [], overT s, _, _, rfl, HC.out, HXQ.out, by have := HLQ.out; simpa using this⟩
 case round =>
  obtain ⟨A, n, k, l, s', D, St, hn, ht, hx, hll⟩ := hrel
  have HT := hide ht; have HXX := hide hx; have HN := hide hn; have HLL := hide hll
  have HLE := hide ht.cb.cur.leftM_
  clear ht hx hn hll HC
  obtain ⟨c0, c1, r0, r1⟩ := HT.out.cb.cells
  have rl := HT.out.cb.rl
  have cl := HT.out.cb.cl
  cases hk : isC (.nm tTile) s' with
  | false =>
   have HK := hide (show Calls Tryz.prog 30 #[.pointer (some ⟨c, 0, none⟩), .string ⟨#[116, 105, 108, 101]⟩] wr (CurP S0 c wr s' (.bool false)) from by have h := cKey HT.out.cb.cur tTile; rw [hk] at h; exact h)
   have HX1 := hide (show X = (l, s') from by rw [← HXX.out]; exact tilesC_stop (by unfold tilesG; rw [if_neg (by simp only; rw [hk]; decide)]))
   clear hk
   go_wp2_with (first | (go_at_call 30; (with_reducible refine HK.out.mono ?_); rintro e V4 ⟨rfl, hat, hon⟩; have HT4 := hide (HT.out.call hon hat); clear hat hon))
   clear c0 c1 r0 r1 rl cl HK HT HLE HXX
   have HN0 := HN
   go_loopw [] (fun wr => ∃ (B : Option Addr) (m j : Nat) (lf : List (List Fact)) (s2 : Cur) (Sf : Nat → Prop), lf.length = m ∧ CAt w wr C R c nb D S0 St Sf (.slice A n k) (.slice B m j) l lf s2 ∧ edgesC (lf, s2) = Y ∧ m + leftC s2 ≤ 1099511627770) (fun wr => leftM c wr)
   case atStart => exact ⟨none, 0, 0, [], s', _, rfl, HT4.out, by rw [← HYQ.out, HX1.out], by have := HLL.out; omega⟩
   case round =>
    obtain ⟨B, m, j, lf, s2, Sf, hn, ht, hx, hll⟩ := hrel
    have HT := hide ht; have HXX := hide hx; have HM := hide hn; have HLM := hide hll
    have HLE := hide ht.cb.cur.leftM_
    clear ht hx hn hll HT4 HLL
    obtain ⟨c0, c1, r0, r1⟩ := HT.out.cb.cells
    have rl := HT.out.cb.rl
    have cl := HT.out.cb.cl
    cases hk : isC (.nm tEdge) s2 with
    | false =>
     have HK := hide (show Calls Tryz.prog 30 #[.pointer (some ⟨c, 0, none⟩), .string ⟨#[101, 100, 103, 101]⟩] wr (CurP S0 c wr s2 (.bool false)) from by have h := cKey HT.out.cb.cur tEdge; rw [hk] at h; exact h)
     have HY1 := hide (show Y = (lf, s2) from by rw [← HXX.out]; exact edgesC_stop (by unfold edgesG; rw [if_neg (by simp only; rw [hk]; decide)]))
     clear hk
     go_wp2_with (first | (go_at_call 30; (with_reducible refine HK.out.mono ?_); rintro e V5 ⟨rfl, hat, hon⟩; have HT5 := hide (HT.out.call hon hat); clear hat hon; refine Hd.out ?_))
     clear c0 c1 r0 r1 rl cl HK HT HLE HXX
     obtain ⟨⟨el, ec, ee⟩, he9⟩ : ∃ x, errC s2 = x := ⟨_, rfl⟩
     have HER := hide (show Calls Tryz.prog 34 #[.pointer (some ⟨c, 0, none⟩)] V5 (RetX (.tuple #[.int .i64 el, .int .i64 ec, .int .i64 ee]) V5) from by have h := cErr HT5.out.cb.cur; unfold errV at h; rw [he9] at h; exact h)
     have HZZ := hide (show Z = if ee ≠ 0 then (⟨[], []⟩, el, ec, ee) else (⟨l, lf⟩, 0, 0, 0) from by rw [HPZ.out, HY1.out, HX1.out]; simp only; rw [he9])
     clear he9
     obtain ⟨c0, c1, r0, r1⟩ := HT5.out.cb.cells
     have rl := HT5.out.cb.rl
     have cl := HT5.out.cb.cl
     by_cases hee : ee = 0
     ·have heb : (ee != 0) = false := by simp [hee]
      have HZE := hide (show Z = (⟨l, lf⟩, 0, 0, 0) from by rw [HZZ.out, if_neg (by simpa using hee)])
      clear hee
      refine hide ?_
      go_wp2_with (first | (go_at_call 34; (with_reducible refine HER.out.mono ?_); rintro e V9 ⟨rfl, u9, hu⟩; have HT9 := hide (hu ▸ HT5.out.ext u9); clear hu; refine Hd.out ?_))
      clear c0 c1 r0 r1 rl cl HER HT5
      obtain ⟨c0, c1, r0, r1⟩ := HT9.out.cb.cells
      have cl := HT9.out.cb.cl
      have f0 := HT9.out.cb.fz 0
      have f1 := HT9.out.cb.fz 1
      refine hide ?_
      go_wp2_with fail
      obtain ⟨Zw, hZw⟩ : ∃ Zw, (V9.setCell ⟨C, 0, none⟩ (.slice A n k)).setCell ⟨C, 1, none⟩ (.slice B m j) = Zw := ⟨_, rfl⟩
      have HTZ := hide (show CAt w Zw C R c nb D S0 St Sf (.slice A n k) (.slice B m j) l lf s2 from by
       rw [← hZw]
       exact (HT9.out.again (j := 0) (x := .slice A n k) rfl).again (j := 1) (x := .slice B m j) rfl)
      try rw [hZw]
      refine bodyPost_ret (results_cert Tryz.results8 _ _ rfl HTZ.out.cb.row) rfl ?_
      rw [HZE.out]
      have hC := HCQ.out
      exact ⟨A, n, k, B, m, j, D, St, Sf, rfl, ⟨HTZ.out.ot.lower28 (by have := HTZ.out.cb.o1; have := HTZ.out.cb.o2; have := HTZ.out.cb.o3; omega), HTZ.out.of.lower28 (by have := HTZ.out.cb.o1; have := HTZ.out.cb.o2; have := HTZ.out.cb.o3; omega), fun b h => by have := HTZ.out.st b h; have := HTZ.out.cb.o1; have := HTZ.out.cb.o2; have := HTZ.out.cb.o3; omega, fun b h => by have := HTZ.out.sf b h; have := HTZ.out.cb.o1; have := HTZ.out.cb.o2; have := HTZ.out.cb.o3; omega, HTZ.out.tb, HTZ.out.fb, HTZ.out.d⟩, hC ▸ HTZ.out.cb.low⟩
     ·have heb : (ee != 0) = true := by simpa using hee
      have HZE := hide (show Z = (⟨[], []⟩, el, ec, ee) from by rw [HZZ.out, if_pos hee])
      clear hee
      refine hide ?_
      go_wp2_with (first | (go_at_call 34; (with_reducible refine HER.out.mono ?_); rintro e V9 ⟨rfl, u9, hu⟩; have HT9 := hide (hu ▸ HT5.out.ext u9); clear hu; refine Hd.out ?_))
      clear c0 c1 r0 r1 rl cl HER HT5
      obtain ⟨c0, c1, r0, r1⟩ := HT9.out.cb.cells
      have cl := HT9.out.cb.cl
      have f0 := HT9.out.cb.fz 0
      have f1 := HT9.out.cb.fz 1
      refine hide ?_
      go_wp2_with fail
      obtain ⟨Zw, hZw⟩ : ∃ Zw, (V9.setCell ⟨C, 0, none⟩ (.slice none 0 0)).setCell ⟨C, 1, none⟩ (.slice none 0 0) = Zw := ⟨_, rfl⟩
      have HTZ := hide (show CB w Zw C R c nb S0 (.slice none 0 0) (.slice none 0 0) s2 from by
       rw [← hZw]
       exact (HT9.out.cb.set (j := 0) (x := .slice none 0 0) rfl).set (j := 1) (x := .slice none 0 0) rfl)
      try rw [hZw]
      refine bodyPost_ret (results_cert Tryz.results8 _ _ rfl HTZ.out.row) rfl ?_
      rw [HZE.out]
      have hC := HCQ.out
      exact ⟨none, 0, 0, none, 0, 0, _, _, _, rfl, CertO.none_ _ _ (by have := HTZ.out.cl; omega), hC ▸ HTZ.out.low⟩
    | true =>
     obtain ⟨b1, hb1⟩ : ∃ b, decide ((m : Int) < 400) = b := ⟨_, rfl⟩
     have hb2 : decide (lf.length < 400) = b1 := by rw [← hb1, HM.out, Bool.eq_iff_iff]; simp; omega
     obtain ⟨s1, hs1⟩ : ∃ s1, unlessC b1 3 (popC s2) = s1 := ⟨_, rfl⟩
     obtain ⟨q, hq⟩ : ∃ q, factsC s1 = q := ⟨_, rfl⟩
     have hgo : edgesG (lf, s2) = some (lf ++ [q.1], q.2) := by
      unfold edgesG
      rw [if_pos hk]
      simp only
      rw [hb2, hs1, hq]
     have HGO := hide (show edgesC (lf ++ [q.1], q.2) = Y from by rw [← HXX.out, edgesC_go hgo])
     have HDEC := hide (show leftC q.2 < leftC s2 from edgesG_dec _ _ hgo)
     have hls : leftC s1 ≤ 1099511627770 := by
      have h1 := left_unless (x := 3) (by decide) b1 (popC s2)
      rw [hs1, left_pop] at h1
      have := HLM.out
      omega
     have HFL := hide (fun (W : World) (h : CurAt W S0 c s1) (hnm : Names W nb) => show Calls Tryz.prog 33 #[rdV c nb] W (FactsP S0 c q W) from hq ▸ facts28_any W S0 c nb s1 h hnm (by have := HT.out.cb.o2; omega) (by omega))
     have HK := hide (show Calls Tryz.prog 30 #[.pointer (some ⟨c, 0, none⟩), .string ⟨#[101, 100, 103, 101]⟩] wr (CurP S0 c wr (popC s2) (.bool true)) from by have h := cKey HT.out.cb.cur tEdge; rw [hk] at h; exact h)
     have HS1Q := hide hs1
     clear hgo hk hb2 hs1 hq hls
     go_wp2_with (first | (go_at_call 30; (with_reducible refine HK.out.mono ?_); rintro e V4 ⟨rfl, hat, hon⟩; have HT4 := hide (HT.out.call hon hat); clear hat hon; refine Hd.out ?_))
     clear c0 c1 r0 r1 rl cl HK HT
     obtain ⟨c0, c1, r0, r1⟩ := HT4.out.cb.cells
     have rl := HT4.out.cb.rl
     have cl := HT4.out.cb.cl
     have HU := hide (show Calls Tryz.prog 31 #[rdV c nb, .bool b1, .int .i64 3] V4 (CurP S0 c V4 s1 (.tuple #[])) from HS1Q.out ▸ unless28_any HT4.out.cb.cur nb b1 3)
     refine hide ?_
     go_wp2_with (first | (go_at_call 31; (with_reducible refine HU.out.mono ?_); rintro e V6 ⟨rfl, hat, hon⟩; have HT6 := hide (HT4.out.call hon hat); clear hat hon; refine Hd.out ?_))
     clear c0 c1 r0 r1 rl cl HU HT4
     obtain ⟨c0, c1, r0, r1⟩ := HT6.out.cb.cells
     have rl := HT6.out.cb.rl
     have cl := HT6.out.cb.cl
     have hcC : C ≠ c := by have := HT6.out.cb.o1; omega
     have hcR : R ≠ c := by have := HT6.out.cb.o2; have := HT6.out.cb.o3; omega
     have hcN : nb ≠ c := by have := HT6.out.cb.o2; omega
     have hnl : nb < V6.heap.size := by have := HT6.out.cb.o3; omega
     refine hide ?_
     go_wp2_with fail
     obtain ⟨E, hE⟩ : ∃ E, V6.heap.size = E := ⟨_, rfl⟩
     have HEQ := hide hE
     refine wp_region_cur c [3] [3, 4] 5 (by kernel_rfl) rfl (by kernel_rfl) (by kernel_rfl) ?_
     simp only [List.take_succ_cons, List.take_zero, List.drop_succ_cons, List.drop_zero]
     repeat (refine flowG_known (by kernel_rfl) (fun K hK => ?_); go_simp; (first | (refine hK _ ?_; clear hK K) | (apply Exists.intro; refine ⟨fun w' => ?_, hK _ ?_⟩; (fail); clear hK K)))
     refine flowG_knownF (by kernel_rfl) (fun K hK => ⟨.slice B m j, fun W' hW' => ?_, hK _ ?_⟩)
     ·have x0 : W'.cell? ⟨C, 1, none⟩ = some (.slice B m j) := (World.cell?_of_block (hW'.block C cl hcC)).trans c1
      have x1 : C < W'.heap.size := Nat.lt_of_lt_of_le cl hW'.size
      go_simp
     clear hK K
     refine flowG_knownF (by kernel_rfl) (fun K hK => ⟨.agg #[.pointer (some ⟨c, 0, none⟩), .map (some nb)], fun W' hW' => ?_, hK _ ?_⟩)
     ·have x0 : W'.cell? ⟨R, 0, none⟩ = some (.pointer (some ⟨c, 0, none⟩)) := (World.cell?_of_block (hW'.block R rl hcR)).trans r0
      have x2 : W'.cell? ⟨R, 1, none⟩ = some (.map (some nb)) := (World.cell?_of_block (hW'.block R rl hcR)).trans r1
      have x1 : R < W'.heap.size := Nat.lt_of_lt_of_le rl hW'.size
      go_simp
     clear hK K
     refine flowG_keep [] (FactsI S0 c E q) (by kernel_rfl) (FactsI.stable_ rfl) (by kernel_rfl) (fun u hF => ?_) ?_
     ·try simp only [List.nil_append, List.cons_append, useH_f, useH_t, useH_nil]
      go_simp
      refine (HFL.out _ (HT6.out.cb.cur.ext u) (HT6.out.cb.nm.keep (ext_block V6 u nb hnl))).mono ?_
      rintro e w' ⟨A1, n1, k1, rfl, ho1, hat, hon⟩
      exact ⟨_, rfl, ⟨A1, n1, k1, rfl, ho1.lower28 (by rw [size_ext]; have := HEQ.out; omega), hat⟩, hF.trans hon, fun h => by cases h⟩
     refine flowG_keepF [true] (FactsB S0 c E q) (by kernel_rfl) (FactsB.stable_ rfl) (fun W' hW' => ?_) ?_
     ·try simp only [List.nil_append, List.cons_append, useH_f, useH_t, useH_nil]
      rintro _ ⟨A1, n1, k1, rfl, ho1, hat⟩
      go_simp
      exact ⟨⟨_, A1, n1, k1, rfl, (by have := HEQ.out; have := hW'.size; omega), heap_alloc_new W' _, ho1.alloc _, hat.alloc _⟩, hW'.alloc _, fun _ => ext_alloc W' _⟩
     refine flowG_done [true, true] (by kernel_rfl) (fun W' hW' => ?_)
     simp only [List.nil_append, List.cons_append, endH_f, endH_t, endH_nil]
     rintro _ - _ ⟨g, A1, n1, k1, rfl, hg, hrow, ho1, hat⟩
     go_simp
     have HT7 := hide (HT6.out.call hW' hat)
     have HRW := hide hrow; have HO1 := hide ho1; have HGB := hide hg
     have HSW := hide hW'.size
     clear c0 c1 r0 r1 rl cl hcC hcR hat hrow ho1 hg hE hcN hnl
     obtain ⟨Sf', hSf'⟩ : ∃ Sf' : Nat → Prop, Sf' = fun b => Sf b ∨ (E ≤ b ∧ b < W'.heap.size) := ⟨_, rfl⟩
     have HST := hide hSf'
     clear hSf'
     refine wpList_push_at (α := RowR Fact) W' rfl (.tmp 41) (.tmp 44) 24 rfl (R + 1) 37 i1 _ 24 Tryz.underlying24 HI1.out HY.out HY1.out HY2.out rfl (by decide) Sf Sf' (.slice B m j) lf [q.1] rfl HT7.out.of ⟨g, 0, none⟩ 1 1 [.slice A1 n1 k1] rfl rfl
      (RepL.single (show Rep.is (α := RowR Fact) W' Sf' q.1 [.slice A1 n1 k1] from ⟨A1, n1, k1, rfl, HO1.out.sl (fun b hb h => by rw [HST.out]; rcases h with h | h; exact h.elim; exact .inr ⟨h, hb⟩), HO1.out.room (fun b hb h => by rw [HST.out]; exact .inr ⟨hb, h⟩)⟩))
      (fun j u hj => lit_news (us := [.slice A1 n1 k1]) HRW.out j u hj)
      (fun b _ h => by rw [HST.out]; exact .inl h)
      (fun x hx h => by
       rw [HST.out] at h
       rcases h with h | h
       ·obtain ⟨_, _, _, h3⟩ := HT7.out.of
        exact h3 x hx h
       ·have := (HT6.out.of.below_ x hx).2; have := HEQ.out; omega)
      (fun b h => by
       rw [HST.out] at h
       rcases h with h | h
       ·exact (HT7.out.sf b h).2.2
       ·exact h.2)
      (by have h1 : List.length (α := RowR Fact) lf = m := HM.out; have := HLM.out; unfold maxLen; omega) (by have h1 : List.length (α := RowR Fact) lf = m := HM.out; have := HLM.out; omega) (by have := HT7.out.cb.rl; omega) ?_
     intro v' W2 ho2 hgr h5
     have HBG := hide (HT7.out.cb.grown hgr (fun x e => (HT7.out.of.below_ x e).1))
     have HTG := hide (HT7.out.push1 hgr ho2 (fun b h => by
       rw [HST.out] at h
       have := hgr.size
       rcases h with h | h
       ·have h1 := HT7.out.sf b h; omega
       ·have := HT6.out.cb.rl; have := HEQ.out; have := HT6.out.d; omega)
      (fun b e => by
       rcases h5 with h5 | h5
       ·exact HT7.out.fb b (h5 ▸ e)
       ·rw [h5] at e; injection e with e; have := HT7.out.d; omega))
     have hl1 : List.length (α := RowR Fact) (lf ++ [q.1]) = m + 1 := by have h1 : List.length (α := RowR Fact) lf = m := HM.out; rw [← h1]; exact List.length_append
     obtain ⟨A', k', rfl⟩ : ∃ A' k', v' = .slice A' (m + 1) k' := by
      obtain ⟨A', k', h⟩ := ho2.form
      exact ⟨A', k', h.trans (congrArg (fun m => Value.slice A' m k') hl1)⟩
     clear ho2 hgr h5
     obtain ⟨c0, c1, r0, r1⟩ := HBG.out.cells
     have rl := HBG.out.rl
     have cl := HBG.out.cl
     have f0 := HBG.out.fz 1
     obtain ⟨Y3, hY3⟩ : ∃ Y, W2.setCell ⟨C, 1, none⟩ (.slice A' (m + 1) k') = Y := ⟨_, rfl⟩
     rw [hY3] at HTG
     go_wp2_with fail
     try rw [hY3]
     have HLY := hide HTG.out.cb.cur.leftM_
     clear hY3
     go_roundw
     case rel => exact ⟨A', m + 1, k', lf ++ [q.1], q.2, _, hl1, HTG.out, HGO.out, by have := HLM.out; have := HDEC.out; omega⟩
     case measure => rw [HLY.out, HLE.out]; exact HDEC.out
  | true =>
   obtain ⟨b1, hb1⟩ : ∃ b, decide ((n : Int) < 200) = b := ⟨_, rfl⟩
   have hb2 : decide (l.length < 200) = b1 := by rw [← hb1, HN.out, Bool.eq_iff_iff]; simp; omega
   obtain ⟨s1, hs1⟩ : ∃ s1, unlessC b1 3 (popC s') = s1 := ⟨_, rfl⟩
   obtain ⟨q, hq⟩ : ∃ q, tileC s1 = q := ⟨_, rfl⟩
   have hgo : tilesG (l, s') = some (l ++ [q.1], q.2) := by
    unfold tilesG
    rw [if_pos hk]
    simp only
    rw [hb2, hs1, hq]
   have HGO := hide (show tilesC (l ++ [q.1], q.2) = X from by rw [← HXX.out, tilesC_go hgo])
   have HDEC := hide (show leftC q.2 < leftC s' from tilesG_dec _ _ hgo)
   have HQI := hide (show InI q.1.kind ∧ InI q.1.parent from hq ▸ tileC_in s1)
   have hls : leftC s1 ≤ 1099511627770 := by
    have h1 := left_unless (x := 3) (by decide) b1 (popC s')
    rw [hs1, left_pop] at h1
    have := HLL.out
    omega
   have HTL := hide (fun (W : World) (h : CurAt W S0 c s1) => show Calls Tryz.prog 32 #[rdV c nb] W (TileP S0 c q W) from hq ▸ tile28_any W S0 c nb s1 h (by omega))
   have HK := hide (show Calls Tryz.prog 30 #[.pointer (some ⟨c, 0, none⟩), .string ⟨#[116, 105, 108, 101]⟩] wr (CurP S0 c wr (popC s') (.bool true)) from by have h := cKey HT.out.cb.cur tTile; rw [hk] at h; exact h)
   have HS1Q := hide hs1
   clear hgo hk hb2 hs1 hq hls
   go_wp2_with (first | (go_at_call 30; (with_reducible refine HK.out.mono ?_); rintro e V4 ⟨rfl, hat, hon⟩; have HT4 := hide (HT.out.call hon hat); clear hat hon; refine Hd.out ?_))
   clear c0 c1 r0 r1 rl cl HK HT
   obtain ⟨c0, c1, r0, r1⟩ := HT4.out.cb.cells
   have rl := HT4.out.cb.rl
   have cl := HT4.out.cb.cl
   have HU := hide (show Calls Tryz.prog 31 #[rdV c nb, .bool b1, .int .i64 3] V4 (CurP S0 c V4 s1 (.tuple #[])) from HS1Q.out ▸ unless28_any HT4.out.cb.cur nb b1 3)
   refine hide ?_
   go_wp2_with (first | (go_at_call 31; (with_reducible refine HU.out.mono ?_); rintro e V6 ⟨rfl, hat, hon⟩; have HT6 := hide (HT4.out.call hon hat); clear hat hon; refine Hd.out ?_))
   clear c0 c1 r0 r1 rl cl HU HT4
   obtain ⟨c0, c1, r0, r1⟩ := HT6.out.cb.cells
   have rl := HT6.out.cb.rl
   have cl := HT6.out.cb.cl
   have hcC : C ≠ c := by have := HT6.out.cb.o1; omega
   have hcR : R ≠ c := by have := HT6.out.cb.o2; have := HT6.out.cb.o3; omega
   refine hide ?_
   go_wp2_with fail
   obtain ⟨B, hB⟩ : ∃ B, V6.heap.size = B := ⟨_, rfl⟩
   have HBQ := hide hB
   refine wp_region_cur c [3] [3, 4] 5 (by kernel_rfl) rfl (by kernel_rfl) (by kernel_rfl) ?_
   simp only [List.take_succ_cons, List.take_zero, List.drop_succ_cons, List.drop_zero]
   repeat (refine flowG_known (by kernel_rfl) (fun K hK => ?_); go_simp; (first | (refine hK _ ?_; clear hK K) | (apply Exists.intro; refine ⟨fun w' => ?_, hK _ ?_⟩; (fail); clear hK K)))
   refine flowG_knownF (by kernel_rfl) (fun K hK => ⟨.slice A n k, fun W' hW' => ?_, hK _ ?_⟩)
   ·have x0 : W'.cell? ⟨C, 0, none⟩ = some (.slice A n k) := (World.cell?_of_block (hW'.block C cl hcC)).trans c0
    have x1 : C < W'.heap.size := Nat.lt_of_lt_of_le cl hW'.size
    go_simp
   clear hK K
   refine flowG_knownF (by kernel_rfl) (fun K hK => ⟨.agg #[.pointer (some ⟨c, 0, none⟩), .map (some nb)], fun W' hW' => ?_, hK _ ?_⟩)
   ·have x0 : W'.cell? ⟨R, 0, none⟩ = some (.pointer (some ⟨c, 0, none⟩)) := (World.cell?_of_block (hW'.block R rl hcR)).trans r0
    have x2 : W'.cell? ⟨R, 1, none⟩ = some (.map (some nb)) := (World.cell?_of_block (hW'.block R rl hcR)).trans r1
    have x1 : R < W'.heap.size := Nat.lt_of_lt_of_le rl hW'.size
    go_simp
   clear hK K
   refine flowG_keep [] (TileI S0 c B q) (by kernel_rfl) (TileI.stable_ rfl) (by kernel_rfl) (fun u hF => ?_) ?_
   ·try simp only [List.nil_append, List.cons_append, useH_f, useH_t, useH_nil]
    go_simp
    refine (HTL.out _ (HT6.out.cb.cur.ext u)).mono ?_
    rintro e w' ⟨A1, n1, k1, rfl, ho1, hat, hon⟩
    exact ⟨_, rfl, ⟨A1, n1, k1, rfl, ho1.lower28 (by rw [size_ext]; have := HBQ.out; omega), hat⟩, hF.trans hon, fun h => by cases h⟩
   refine flowG_keepF [true] (TileL S0 c B q) (by kernel_rfl) (TileL.stable_ rfl) (fun W' hW' => ?_) ?_
   ·try simp only [List.nil_append, List.cons_append, useH_f, useH_t, useH_nil]
    rintro _ ⟨A1, n1, k1, rfl, ho1, hat⟩
    go_simp
    exact ⟨⟨_, A1, n1, k1, rfl, (by have := HBQ.out; have := hW'.size; omega), heap_alloc_new W' _, ho1.alloc _, hat.alloc _⟩, hW'.alloc _, fun _ => ext_alloc W' _⟩
   refine flowG_done [true, true] (by kernel_rfl) (fun W' hW' => ?_)
   simp only [List.nil_append, List.cons_append, endH_f, endH_t, endH_nil]
   rintro _ - _ ⟨g, A1, n1, k1, rfl, hg, hrow, ho1, hat⟩
   go_simp
   have HT7 := hide (HT6.out.call hW' hat)
   have HRW := hide hrow; have HO1 := hide ho1; have HGB := hide hg
   have HSW := hide hW'.size
   clear c0 c1 r0 r1 rl cl hcC hcR hat hrow ho1 hg hB
   obtain ⟨St', hSt'⟩ : ∃ St' : Nat → Prop, St' = fun b => St b ∨ (B ≤ b ∧ b < W'.heap.size) := ⟨_, rfl⟩
   have HST := hide hSt'
   clear hSt'
   refine wpList_push_at (α := TileR) W' rfl (.tmp 25) (.tmp 28) 23 rfl (R + 1) 35 i0 _ 40 Tryz.underlying23 HI0.out HZ.out HZ1.out HZ2.out rfl (by decide) St St' (.slice A n k) l [q.1] rfl HT7.out.ot ⟨g, 0, none⟩ 1 1 [.int .i64 q.1.kind, .int .i64 q.1.parent, .slice A1 n1 k1] rfl rfl
    (RepL.single ⟨A1, n1, k1, rfl, HQI.out.1, HQI.out.2, HO1.out.sl (fun b hb h => by rw [HST.out]; rcases h with h | h; exact h.elim; exact .inr ⟨h, hb⟩), HO1.out.room (fun b hb h => by rw [HST.out]; exact .inr ⟨hb, h⟩)⟩)
    (fun j u hj => lit_news (us := [.int .i64 q.1.kind, .int .i64 q.1.parent, .slice A1 n1 k1]) HRW.out j u hj)
    (fun b _ h => by rw [HST.out]; exact .inl h)
    (fun x hx h => by
     rw [HST.out] at h
     rcases h with h | h
     ·obtain ⟨_, _, _, h3⟩ := HT7.out.ot
      exact h3 x hx h
     ·have := (HT6.out.ot.below_ x hx).2; have := HBQ.out; omega)
    (fun b h => by
     rw [HST.out] at h
     rcases h with h | h
     ·have := (HT7.out.st b h).2; have := HT7.out.d; omega
     ·exact h.2)
    (by have h1 : List.length (α := TileR) l = n := HN.out; have := HLL.out; unfold maxLen; omega) (by have h1 : List.length (α := TileR) l = n := HN.out; have := HLL.out; omega) (by have := HT7.out.cb.rl; omega) ?_
   intro v' W2 ho2 hgr h5
   have HBG := hide (HT7.out.cb.grown hgr (fun x e => (HT7.out.ot.below_ x e).1))
   have HTG := hide (HT7.out.push0 hgr ho2 (fun b h => by
    rw [HST.out] at h
    have := hgr.size
    rcases h with h | h
    ·have h1 := HT7.out.st b h; have := HT7.out.d; omega
    ·have := HT6.out.cb.rl; have := HBQ.out; omega))
   have hl1 : List.length (α := TileR) (l ++ [q.1]) = n + 1 := by have h1 : List.length (α := TileR) l = n := HN.out; rw [← h1]; exact List.length_append
   obtain ⟨A', k', rfl⟩ : ∃ A' k', v' = .slice A' (n + 1) k' := by
    obtain ⟨A', k', h⟩ := ho2.form
    exact ⟨A', k', h.trans (congrArg (fun m => Value.slice A' m k') hl1)⟩
   clear ho2 hgr h5
   obtain ⟨c0, c1, r0, r1⟩ := HBG.out.cells
   have rl := HBG.out.rl
   have cl := HBG.out.cl
   have f0 := HBG.out.fz 0
   obtain ⟨Y3, hY3⟩ : ∃ Y, W2.setCell ⟨C, 0, none⟩ (.slice A' (n + 1) k') = Y := ⟨_, rfl⟩
   rw [hY3] at HTG
   go_wp2_with fail
   try rw [hY3]
   have HLY := hide HTG.out.cb.cur.leftM_
   clear hY3
   go_roundw
   case rel => exact ⟨A', n + 1, k', l ++ [q.1], q.2, _, _, hl1, HTG.out, HGO.out, by have := HLL.out; have := HDEC.out; omega⟩
   case measure => rw [HLY.out, HLE.out]; exact HDEC.out
end Go.Proofs.YtppkanniefignaaGreatDoor
