/- Rows that have all their room: the cells up to a slice's capacity are there. law28: what stands while a certificate is read. law28: how many words a text of a certificate has; what is read of a text that is too long. law28: walks: what cert.Parse answers at a text that is too long. -/
import Derived.Test.YtppkanniefignaaGreatDoorG2
import Derived.Test.YtppkanniefignaaGreatDoorG33
set_option linter.unusedSimpArgs false
set_option linter.unusedVariables false
namespace Go.Proofs.YtppkanniefignaaGreatDoor
open Go.RowKit

/-- The slice at A has c elements' room, in a block of S. -/
def Room (w : World) (S : Nat → Prop) (sz : Nat) (A : Option Addr) (c : Nat) : Prop :=
  (A = none ∧ c = 0) ∨ ∃ g cur T, A = some ⟨g, 0, none⟩ ∧ S g ∧ g < w.heap.size ∧ w.heap[g]? = some (.cells cur T (0, 0)) ∧ cur.size = c * sz
section
variable {w w' : World} {S S' : Nat → Prop} {sz c : Nat} {A : Option Addr}
theorem Room.keep (h : Room w S sz A c) (hk : ∀ b, S b → b < w.heap.size → w'.heap[b]? = w.heap[b]?) (hs : w.heap.size ≤ w'.heap.size) : Room w' S sz A c := by
  rcases h with h | ⟨g, cur, T, e, h1, h2, h3, h4⟩
  · exact .inl h
  · exact .inr ⟨g, cur, T, e, h1, by omega, (hk g h1 h2).trans h3, h4⟩
theorem Room.more (h : Room w S sz A c) (hS : ∀ b, b < w.heap.size → S b → S' b) : Room w S' sz A c := by
  rcases h with h | ⟨g, cur, T, e, h1, h2, h3, h4⟩
  · exact .inl h
  · exact .inr ⟨g, cur, T, e, hS g h2 h1, h2, h3, h4⟩
/-- A cell that is written: the room stays. -/
theorem Room.set (h : Room w S sz A c) (b j : Nat) (u : Value) : Room (w.setCell ⟨b, j, none⟩ u) S sz A c := by
  rcases h with h | ⟨g, cur, T, e, h1, h2, h3, h4⟩
  · exact .inl h
  · by_cases hp : b = g
    · subst hp
      have hh : (w.setCell ⟨b, j, none⟩ u).heap[b]? = some (.cells (cur.setIfInBounds j u) T (0, 0)) := by
        show (w.heap.modify b _)[b]? = _
        rw [Array.getElem?_modify, if_pos rfl, h3]; rfl
      exact .inr ⟨b, cur.setIfInBounds j u, T, e, h1, by simpa using h2, hh, by simpa using h4⟩
    · exact .inr ⟨g, cur, T, e, h1, by simpa using h2, (Below.heap_setCell w ⟨b, j, none⟩ u g (fun e => hp e.symm)).trans h3, h4⟩
end
theorem OwnL.room {α : Type} [Rep α] {w : World} {base : Nat} {T : TypeId} {S S' : Nat → Prop} {A : Option Addr} {n c : Nat} {xs : List α} (h : OwnL w base T S (.slice A n c) xs) (hS : ∀ b, base ≤ b → b < w.heap.size → S' b) : Room w S' (Rep.size α) A c := by
  obtain ⟨vals, ⟨_, h⟩, _⟩ := h
  rcases h with ⟨e, _⟩ | ⟨g, cap, cur, e, hg, hh, _, _, hsz, _⟩
  · injection e with e1 e2 e3
    exact .inl ⟨e1, e3⟩
  · injection e with e1 e2 e3
    subst e1 e2 e3
    have hl := (Array.getElem?_eq_some_iff.1 hh).1
    exact .inr ⟨g, cur, T, rfl, hS g hg hl, hl, hh, hsz⟩
/-- A list that is one cell's slice, with room. -/
def RowR (α : Type) : Type := List α
instance {α : Type} [Rep α] : Rep (RowR α) where
  size := 1
  is w S x vs := ∃ A n c, vs = [.slice A n c] ∧ Sl w S A n c (x : List α) ∧ Room w S (Rep.size α) A c
  len h := by obtain ⟨A, n, c, rfl, _⟩ := h; rfl
  keep h hs hk := by obtain ⟨A, n, c, e, h1, h2⟩ := h; exact ⟨A, n, c, e, h1.keep hs hk, h2.keep hk hs⟩
  more h hS := by obtain ⟨A, n, c, e, h1, h2⟩ := h; exact ⟨A, n, c, e, h1.more hS, h2.more hS⟩
  one h := by obtain ⟨A, n, c, rfl, _⟩ := h; simp [Value.oneCell']
theorem RepL.conv {α β : Type} [Rep α] [Rep β] {w : World} {S : Nat → Prop} (f : α → β) (hf : ∀ x us, Rep.is w S x us → Rep.is w S (f x) us) : ∀ {xs : List α} {vs : List Value}, RepL w S xs vs → RepL w S (xs.map f) vs
  | [], _, h => h
  | x :: l, vs, ⟨us, ts, e, h1, h2⟩ => ⟨us, ts, e, hf x us h1, RepL.conv f hf h2⟩
theorem OwnL.conv {α β : Type} [Rep α] [Rep β] {w : World} {base : Nat} {T : TypeId} {S : Nat → Prop} {v : Value} {xs : List α} (h : OwnL w base T S v xs) (f : α → β) (hz : Rep.size α = Rep.size β) (hf : ∀ x us, Rep.is w S x us → Rep.is w S (f x) us) : OwnL w base T S v (xs.map f) := by
  obtain ⟨vals, h1, h2, h3⟩ := h
  exact ⟨vals, by rw [List.length_map, ← hz]; exact h1, h2.conv f hf, h3⟩
theorem RepL.rows {α : Type} [Rep α] {w : World} {S : Nat → Prop} : ∀ {xs : List (RowR α)} {vs : List Value}, RepL w S xs vs → RepL (α := List α) w S xs vs
  | [], _, h => h
  | x :: l, vs, ⟨us, ts, e, h1, h2⟩ => ⟨us, ts, e, (by obtain ⟨A, n, c, e, h1, _⟩ := h1; exact ⟨A, n, c, e, h1⟩), RepL.rows h2⟩
theorem OwnL.rows {α : Type} [Rep α] {w : World} {base : Nat} {T : TypeId} {S : Nat → Prop} {v : Value} {xs : List (RowR α)} (h : OwnL w base T S v xs) : OwnL (α := List α) w base T S v xs := by
  obtain ⟨vals, h1, h2, h3⟩ := h
  exact ⟨vals, h1, h2.rows, h3⟩
end Go.Proofs.YtppkanniefignaaGreatDoor
set_option linter.unusedSimpArgs false
set_option linter.unusedVariables false
namespace Go.Proofs.YtppkanniefignaaGreatDoor
open Go.RowKit Go.Maps

/-- A tile whose blocks' row has all its room. -/
def TileR : Type := Tile
instance : Rep TileR where
  size := 3
  is w S x vs := ∃ A n c, vs = [.int .i64 (Tile.kind x), .int .i64 (Tile.parent x), .slice A n c] ∧ InI (Tile.kind x) ∧ InI (Tile.parent x) ∧ Sl w S A n c (Tile.blocks x) ∧ Room w S 1 A c
  len h := by obtain ⟨A, n, c, rfl, _⟩ := h; rfl
  keep h hs hk := by obtain ⟨A, n, c, e, h1, h2, h3, h4⟩ := h; exact ⟨A, n, c, e, h1, h2, h3.keep hs hk, h4.keep hk hs⟩
  more h hS := by obtain ⟨A, n, c, e, h1, h2, h3, h4⟩ := h; exact ⟨A, n, c, e, h1, h2, h3.more hS, h4.more hS⟩
  one h := by obtain ⟨A, n, c, rfl, _⟩ := h; simp [Value.oneCell']
theorem RepL.tiles {w : World} {S : Nat → Prop} : ∀ {xs : List TileR} {vs : List Value}, RepL w S xs vs → RepL (α := Tile) w S xs vs
  | [], _, h => h
  | x :: l, vs, ⟨us, ts, e, h1, h2⟩ => ⟨us, ts, e, (by obtain ⟨A, n, c, e, h1, h2, h3, _⟩ := h1; subst e; exact Tile.mk_ h1 h2 h3), RepL.tiles h2⟩
theorem OwnL.tiles {w : World} {base : Nat} {T : TypeId} {S : Nat → Prop} {v : Value} {xs : List TileR} (h : OwnL w base T S v xs) : OwnL (α := Tile) w base T S v xs := by
  obtain ⟨vals, h1, h2, h3⟩ := h
  exact ⟨vals, h1, h2.tiles, h3⟩

/-- The certificate in block C, the reader in block R, the cursor c, the names. -/
structure CB (w0 W : World) (C R c nb : Nat) (S : Nat → Prop) (vt vf : Value) (s : Cur) : Prop where
  row : W.heap[C]? = some (.cells #[vt, vf] 26 (0, 0))
  rdr : W.heap[R]? = some (.cells #[.pointer (some ⟨c, 0, none⟩), .map (some nb)] 62 (0, 0))
  cur : CurAt W S c s
  low : Below C w0 W
  nm : Names W nb
  o1 : C < c
  o2 : c < nb
  o3 : nb < R
  o4 : ∀ b, S b → C < b ∧ b < R
section
variable {w0 W W' : World} {C R c nb D D' : Nat} {S St St' Sf Sf' : Nat → Prop} {vt vt' vf vf' : Value} {lt lt' : List TileR} {lf lf' : List (RowR Fact)} {s s' : Cur}
theorem CB.rl (h : CB w0 W C R c nb S vt vf s) : R < W.heap.size := (Array.getElem?_eq_some_iff.1 h.rdr).1
theorem CB.cl (h : CB w0 W C R c nb S vt vf s) : C < W.heap.size := (Array.getElem?_eq_some_iff.1 h.row).1
theorem CB.call (h : CB w0 W C R c nb S vt vf s) (hon : Only c W W') (hat : CurAt W' S c s') : CB w0 W' C R c nb S vt vf s' where
  row := (hon.block C h.cl (by have := h.o1; omega)).trans h.row
  rdr := (hon.block R h.rl (by have := h.o2; have := h.o3; omega)).trans h.rdr
  cur := hat
  low := h.low.trans (hon.below (by have := h.o1; omega) (by have := h.cl; omega))
  nm := h.nm.keep (hon.block nb (by have := h.o3; have := h.rl; omega) (by have := h.o2; omega))
  o1 := h.o1
  o2 := h.o2
  o3 := h.o3
  o4 := h.o4
/-- A cell of the certificate is written. -/
theorem CB.set (h : CB w0 W C R c nb S vt vf s) {j : Nat} {x : Value} (hr : (#[vt, vf] : Array Value).setIfInBounds j x = #[vt', vf']) : CB w0 (W.setCell ⟨C, j, none⟩ x) C R c nb S vt' vf' s where
  row := by rw [row_setB h.row, hr]
  rdr := (Below.heap_setCell W ⟨C, j, none⟩ x R (by show R ≠ C; have := h.o1; have := h.o2; have := h.o3; omega)).trans h.rdr
  cur := h.cur.keep (by simp) (Below.heap_setCell W ⟨C, j, none⟩ x c (by show c ≠ C; have := h.o1; omega)) fun b hS _ => Below.heap_setCell W ⟨C, j, none⟩ x b (by show b ≠ C; have := (h.o4 b hS).1; omega)
  low := h.low.setCell (p := ⟨C, j, none⟩) (Nat.le_refl _) x
  nm := h.nm.keep (Below.heap_setCell W ⟨C, j, none⟩ x nb (by show nb ≠ C; have := h.o1; have := h.o2; omega))
  o1 := h.o1
  o2 := h.o2
  o3 := h.o3
  o4 := h.o4
/-- What is appended to a row made since. -/
theorem CB.grown {row : Option Nat} (h : CB w0 W C R c nb S vt vf s) (hg : W.grownBy W' row) (hr : ∀ g, row = some g → R < g) : CB w0 W' C R c nb S vt vf s := by
  have hk : ∀ b, b < W.heap.size → b ≤ R → W'.heap[b]? = W.heap[b]? := fun b hb hm => hg.block b hb (fun e => by have := hr b e.symm; omega)
  have o1 := h.o1; have o2 := h.o2; have o3 := h.o3; have rl := h.rl
  have hb0 : Below (R + 1) W W' := (Below.refl _ _).grown hg (by omega) (fun r e => hr r e)
  exact ⟨(hk C h.cl (by omega)).trans h.row, (hk R rl (Nat.le_refl _)).trans h.rdr, h.cur.keep hg.size (hk c (by omega) (by omega)) (fun b hS hb => hk b hb (by have := (h.o4 b hS).2; omega)), h.low.trans (hb0.mono (by omega)), h.nm.keep (hk nb (by omega) (by omega)), o1, o2, o3, h.o4⟩
/-- What tiles name lies ahead of D, what facts name behind. -/
structure CAt (w0 W : World) (C R c nb D : Nat) (S St Sf : Nat → Prop) (vt vf : Value) (lt : List TileR) (lf : List (RowR Fact)) (s : Cur) : Prop where
  cb : CB w0 W C R c nb S vt vf s
  ot : OwnL W (R + 1) 35 St vt lt
  of : OwnL W (R + 1) 37 Sf vf lf
  st : ∀ b, St b → R < b ∧ b < D
  sf : ∀ b, Sf b → R < b ∧ D ≤ b ∧ b < W.heap.size
  tb : ∀ b, vt.ownBlock = some b → b < D
  fb : ∀ b, vf.ownBlock = some b → D ≤ b
  d : D ≤ W.heap.size
theorem CAt.call (h : CAt w0 W C R c nb D S St Sf vt vf lt lf s) (hon : Only c W W') (hat : CurAt W' S c s') : CAt w0 W' C R c nb D S St Sf vt vf lt lf s' where
  cb := h.cb.call hon hat
  ot := h.ot.keep hon.size (fun b hb hl => hon.block b hl (by have := (h.st b hb).1; have := h.cb.o2; have := h.cb.o3; omega)) fun g hg => hon.block g (h.ot.below_ g hg).2 (by have := (h.ot.below_ g hg).1; have := h.cb.o2; have := h.cb.o3; omega)
  of := h.of.keep hon.size (fun b hb hl => hon.block b hl (by have := (h.sf b hb).1; have := h.cb.o2; have := h.cb.o3; omega)) fun g hg => hon.block g (h.of.below_ g hg).2 (by have := (h.of.below_ g hg).1; have := h.cb.o2; have := h.cb.o3; omega)
  st := h.st
  sf := fun b hb => ⟨(h.sf b hb).1, (h.sf b hb).2.1, Nat.lt_of_lt_of_le (h.sf b hb).2.2 hon.size⟩
  tb := h.tb
  fb := h.fb
  d := Nat.le_trans h.d hon.size
theorem CAt.ext (h : CAt w0 W C R c nb D S St Sf vt vf lt lf s) (u : Ext) : CAt w0 (W.ext u) C R c nb D S St Sf vt vf lt lf s := h.call ((Only.refl c W).ext u) (h.cb.cur.ext u)
theorem CAt.alloc (h : CAt w0 W C R c nb D S St Sf vt vf lt lf s) (o : Obj) : CAt w0 (W.alloc o) C R c nb D S St Sf vt vf lt lf s := h.call ((Only.refl c W).alloc o) (h.cb.cur.alloc o)
/-- A tile more. -/
theorem CAt.push0 (h : CAt w0 W C R c nb D S St (fun _ => False) vt (.slice none 0 0) lt [] s) (hg : W.grownBy W' vt.ownBlock) (ho : OwnL W' (R + 1) 35 St' vt' lt') (st : ∀ b, St' b → R < b ∧ b < W'.heap.size) : CAt w0 (W'.setCell ⟨C, 0, none⟩ vt') C R c nb W'.heap.size S St' (fun _ => False) vt' (.slice none 0 0) lt' [] s where
  cb := (h.cb.grown hg (fun g e => (h.ot.below_ g e).1)).set rfl
  ot := ho.setCell (fun e => by have h5 : R < C := (st _ e).1; have := h.cb.o1; have := h.cb.o2; have := h.cb.o3; omega) (fun e => by have h5 : R + 1 ≤ C := (ho.below_ _ e).1; have := h.cb.o1; have := h.cb.o2; have := h.cb.o3; omega) _
  of := OwnL.nil_ _ _ _ _
  st := st
  sf := fun _ h => h.elim
  tb := fun b hb => (ho.below_ b hb).2
  fb := fun _ h => by simp [Value.ownBlock] at h
  d := by simp
/-- An edge's facts more. -/
theorem CAt.push1 (h : CAt w0 W C R c nb D S St Sf vt vf lt lf s) (hg : W.grownBy W' vf.ownBlock) (ho : OwnL W' (R + 1) 37 Sf' vf' lf') (sf : ∀ b, Sf' b → R < b ∧ D ≤ b ∧ b < W'.heap.size) (fb : ∀ b, vf'.ownBlock = some b → D ≤ b) : CAt w0 (W'.setCell ⟨C, 1, none⟩ vf') C R c nb D S St Sf' vt vf' lt lf' s where
  cb := (h.cb.grown hg (fun g e => (h.of.below_ g e).1)).set rfl
  ot := (h.ot.keep hg.size (fun b hb hl => hg.block b hl (fun e => by have := h.fb b e.symm; have := (h.st b hb).2; omega)) fun g hgt => hg.block g (h.ot.below_ g hgt).2 (fun e => by have := h.fb g e.symm; have := h.tb g hgt; omega)).setCell (fun e => by have h5 : R < C := (h.st _ e).1; have := h.cb.o1; have := h.cb.o2; have := h.cb.o3; omega) (fun e => by have h5 : R + 1 ≤ C := (h.ot.below_ _ e).1; have := h.cb.o1; have := h.cb.o2; have := h.cb.o3; omega) _
  of := ho.setCell (fun e => by have h5 : R < C := (sf _ e).1; have := h.cb.o1; have := h.cb.o2; have := h.cb.o3; omega) (fun e => by have h5 : R + 1 ≤ C := (ho.below_ _ e).1; have := h.cb.o1; have := h.cb.o2; have := h.cb.o3; omega) _
  st := h.st
  sf := fun b hb => by have := sf b hb; simpa using this
  tb := h.tb
  fb := fb
  d := by have := h.d; have := hg.size; simp; omega
/-- A cell is written as it was. -/
theorem CAt.again (h : CAt w0 W C R c nb D S St Sf vt vf lt lf s) {j : Nat} {x : Value} (hr : (#[vt, vf] : Array Value).setIfInBounds j x = #[vt, vf]) : CAt w0 (W.setCell ⟨C, j, none⟩ x) C R c nb D S St Sf vt vf lt lf s where
  cb := h.cb.set hr
  ot := h.ot.setCell (fun e => by have h5 : R < C := (h.st _ e).1; have := h.cb.o1; have := h.cb.o2; have := h.cb.o3; omega) (fun e => by have h5 : R + 1 ≤ C := (h.ot.below_ _ e).1; have := h.cb.o1; have := h.cb.o2; have := h.cb.o3; omega) _
  of := h.of.setCell (fun e => by have h5 : R < C := (h.sf _ e).1; have := h.cb.o1; have := h.cb.o2; have := h.cb.o3; omega) (fun e => by have h5 : R + 1 ≤ C := (h.of.below_ _ e).1; have := h.cb.o1; have := h.cb.o2; have := h.cb.o3; omega) _
  st := h.st
  sf := fun b hb => by have := h.sf b hb; simpa using this
  tb := h.tb
  fb := h.fb
  d := by have := h.d; simpa using this
theorem CB.cells (h : CB w0 W C R c nb S vt vf s) : W.cell? ⟨C, 0, none⟩ = some vt ∧ W.cell? ⟨C, 1, none⟩ = some vf ∧ W.cell? ⟨R, 0, none⟩ = some (.pointer (some ⟨c, 0, none⟩)) ∧ W.cell? ⟨R, 1, none⟩ = some (.map (some nb)) :=
  ⟨cell_of_row W C _ _ _ (0, 0) h.row, cell_of_row W C _ _ _ (0, 0) h.row, cell_of_row W R _ _ _ (0, 0) h.rdr, cell_of_row W R _ _ _ (0, 0) h.rdr⟩
theorem CB.fz (h : CB w0 W C R c nb S vt vf s) (j : Nat) : W.frozen? ⟨C, j, none⟩ = false := by simp [World.frozen?, h.row]
end
theorem tileC_in (s : Cur) : InI (tileC s).1.kind ∧ InI (tileC s).1.parent := by
  unfold tileC
  simp only
  have h1 := kind_le kindsB 1 s
  have h2 := numC_rng (lo := -1) (hi := 199) (by decide) (by decide) (unlessC ((kindC kindsB 1 s).1 != 0) 7 (kindC kindsB 1 s).2)
  have h3 : kindsB.length = 4 := rfl
  unfold InI
  omega
end Go.Proofs.YtppkanniefignaaGreatDoor
set_option linter.unusedSimpArgs false
set_option linter.unusedVariables false
namespace Go.Proofs.YtppkanniefignaaGreatDoor
open Go.RowKit Go.Maps

theorem overT_len28 (s : ByteArray) (hs : s.size ≤ 262144) : leftC (overT s) ≤ 1099511627770 := by
  have h0 : (readR s).words.length ≤ 1099511627770 := by
    by_cases he : (readR s).err = 0
    · obtain ⟨ws, _, hR, _, _, ht⟩ := read_lexes he
      rw [hR]
      have := totL_len2 ws
      show ws.length ≤ _; omega
    · rw [(read_err s he).1]; simp
  have h1 : (overT s).ws.length ≤ 1099511627770 := by
    unfold overT
    split
    · exact Nat.zero_le _
    · have h2 := compK_len (readR s).words true
      have h3 : (dropEnd (compK true (readR s).words)).length ≤ (compK true (readR s).words).length := by
        unfold dropEnd
        split
        · split
          · simp
          · exact Nat.le_refl _
        · exact Nat.le_refl _
      simp only
      omega
  unfold leftC
  split <;> omega
end Go.Proofs.YtppkanniefignaaGreatDoor
set_option linter.unusedSimpArgs false
set_option linter.unusedVariables false
namespace Go.Proofs.YtppkanniefignaaGreatDoor
open Go.RowKit Go.Maps
theorem size_cert : (Tryz.prog.info? 26).map (·.size) = some 2 := by kernel_rfl
theorem results_cell_tmp3 {P : Program} {fn : Func} {p t1 t2 t3 : Tmp} {ty : TypeId} {a : Addr} {v : Value} (h : fn.results = #[.cell p ty, .tmp t1, .tmp t2, .tmp t3]) (tmps : Array Value) (w : World)
    (hp : tmps.getD p undef = .pointer (some a)) (hl : (loadVar ty a).run P w = .ok v w) : (results fn tmps).run P w = .ok (.tuple #[v, tmps.getD t1 undef, tmps.getD t2 undef, tmps.getD t3 undef]) w := by
  have hp' : tmps[p]?.getD undef = .pointer (some a) := by simpa using hp
  simp [results, h, hp', asAddr, hl]
theorem results_cert {fn : Func} {p t1 t2 t3 : Tmp} {g : Nat} {a1 a2 : Value} (h : fn.results = #[.cell p 26, .tmp t1, .tmp t2, .tmp t3]) (tmps : Array Value) (w : World)
    (hp : tmps.getD p undef = .pointer (some ⟨g, 0, none⟩)) (hg : w.heap[g]? = some (.cells #[a1, a2] 26 (0, 0))) : (results fn tmps).run Tryz.prog w = .ok (.tuple #[.agg #[a1, a2], tmps.getD t1 undef, tmps.getD t2 undef, tmps.getD t3 undef]) w :=
  results_cell_tmp3 h tmps w hp (run_loadVar_row w g _ _ _ (0, 0) _ hg Tryz.underlying26 rfl size_cert)
set_option maxRecDepth 100000 in
set_option maxHeartbeats 8000000 in
theorem parse28_long (s : ByteArray) (w : World) (hbig : 262144 < s.size) : Calls Tryz.prog 8 #[.string s] w (fun e w' => e = .returned (.tuple #[.agg #[.slice none 0 0, .slice none 0 0], .int .i64 0, .int .i64 0, .int .i64 3]) ∧ Below w.heap.size w w') := by
  go_enter Tryz.func8, Tryz.ntmps8
  go_wp2_with fail
  exact bodyPost_ret (results_cert Tryz.results8 _ _ rfl (heap_alloc_new w _)) rfl ⟨rfl, (Below.refl _ _).alloc (Nat.le_refl _) _⟩
end Go.Proofs.YtppkanniefignaaGreatDoor
