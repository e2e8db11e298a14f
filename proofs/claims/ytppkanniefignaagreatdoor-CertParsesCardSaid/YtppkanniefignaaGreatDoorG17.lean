/- law28: what stands while the document reads a certificate. law28: walks: the document's Parse. Printed by gen_d28g.py. -/
import Derived.Test.YtppkanniefignaaGreatDoorD28e
import Derived.Test.YtppkanniefignaaGreatDoorC11
set_option linter.unusedSimpArgs false
set_option linter.unusedVariables false
namespace Go.Proofs.YtppkanniefignaaGreatDoor
open Go.RowKit Go.Maps
/-- What is returned in block Z, the certificate in block M, the document's cursor c. -/
structure DB (w0 W : World) (Z M c : Nat) (S : Nat → Prop) (vt vf : Value) (s : Cur) : Prop where
  zro : W.heap[Z]? = some (.cells #[.slice none 0 0, .slice none 0 0] 26 (0, 0))
  row : W.heap[M]? = some (.cells #[vt, vf] 26 (0, 0))
  cur : DocAt W S c s
  low : Below Z w0 W
  o1 : Z < c
  o2 : c < M
  o4 : ∀ b, S b → Z < b ∧ b < M
section
variable {w0 W W' : World} {Z M c D D' : Nat} {S St St' Sf Sf' : Nat → Prop} {vt vt' vf vf' : Value} {lt lt' : List TileR} {lf lf' : List (RowR Fact)} {s s' : Cur}
theorem DB.zl (h : DB w0 W Z M c S vt vf s) : Z < W.heap.size := (Array.getElem?_eq_some_iff.1 h.zro).1
theorem DB.ml (h : DB w0 W Z M c S vt vf s) : M < W.heap.size := (Array.getElem?_eq_some_iff.1 h.row).1
theorem DB.call (h : DB w0 W Z M c S vt vf s) (hon : Only c W W') (hat : DocAt W' S c s') : DB w0 W' Z M c S vt vf s' where
  zro := (hon.block Z h.zl (by have := h.o1; omega)).trans h.zro
  row := (hon.block M h.ml (by have := h.o2; omega)).trans h.row
  cur := hat
  low := h.low.trans (hon.below (by have := h.o1; omega) (by have := h.zl; omega))
  o1 := h.o1
  o2 := h.o2
  o4 := h.o4
theorem DB.set (h : DB w0 W Z M c S vt vf s) {j : Nat} {x : Value} (hr : (#[vt, vf] : Array Value).setIfInBounds j x = #[vt', vf']) : DB w0 (W.setCell ⟨M, j, none⟩ x) Z M c S vt' vf' s where
  zro := (Below.heap_setCell W ⟨M, j, none⟩ x Z (by show Z ≠ M; have := h.o1; have := h.o2; omega)).trans h.zro
  row := by rw [row_setB h.row, hr]
  cur := h.cur.keep (by simp) (Below.heap_setCell W ⟨M, j, none⟩ x c (by show c ≠ M; have := h.o2; omega)) fun b hS _ => Below.heap_setCell W ⟨M, j, none⟩ x b (by show b ≠ M; have := (h.o4 b hS).2; omega)
  low := h.low.setCell (p := ⟨M, j, none⟩) (by show Z ≤ M; have := h.o1; have := h.o2; omega) x
  o1 := h.o1
  o2 := h.o2
  o4 := h.o4
theorem DB.grown {row : Option Nat} (h : DB w0 W Z M c S vt vf s) (hg : W.grownBy W' row) (hr : ∀ g, row = some g → M < g) : DB w0 W' Z M c S vt vf s := by
  have hk : ∀ b, b < W.heap.size → b ≤ M → W'.heap[b]? = W.heap[b]? := fun b hb hm => hg.block b hb (fun e => by have := hr b e.symm; omega)
  have o1 := h.o1; have o2 := h.o2; have rl := h.ml
  have hb0 : Below (M + 1) W W' := (Below.refl _ _).grown hg (by omega) (fun r e => hr r e)
  exact ⟨(hk Z h.zl (by omega)).trans h.zro, (hk M rl (Nat.le_refl _)).trans h.row, h.cur.keep hg.size (hk c (by omega) (by omega)) (fun b hS hb => hk b hb (by have := (h.o4 b hS).2; omega)), h.low.trans (hb0.mono (by omega)), o1, o2, h.o4⟩
/-- What tiles name lies ahead of D, what facts name behind. -/
structure DAt (w0 W : World) (Z M c D : Nat) (S St Sf : Nat → Prop) (vt vf : Value) (lt : List TileR) (lf : List (RowR Fact)) (s : Cur) : Prop where
  cb : DB w0 W Z M c S vt vf s
  ot : OwnL W (M + 1) 35 St vt lt
  of : OwnL W (M + 1) 37 Sf vf lf
  st : ∀ b, St b → M < b ∧ b < D
  sf : ∀ b, Sf b → M < b ∧ D ≤ b ∧ b < W.heap.size
  tb : ∀ b, vt.ownBlock = some b → b < D
  fb : ∀ b, vf.ownBlock = some b → D ≤ b
  d : D ≤ W.heap.size
theorem DAt.call (h : DAt w0 W Z M c D S St Sf vt vf lt lf s) (hon : Only c W W') (hat : DocAt W' S c s') : DAt w0 W' Z M c D S St Sf vt vf lt lf s' where
  cb := h.cb.call hon hat
  ot := h.ot.keep hon.size (fun b hb hl => hon.block b hl (by have := (h.st b hb).1; have := h.cb.o2; omega)) fun g hg => hon.block g (h.ot.below_ g hg).2 (by have := (h.ot.below_ g hg).1; have := h.cb.o2; omega)
  of := h.of.keep hon.size (fun b hb hl => hon.block b hl (by have := (h.sf b hb).1; have := h.cb.o2; omega)) fun g hg => hon.block g (h.of.below_ g hg).2 (by have := (h.of.below_ g hg).1; have := h.cb.o2; omega)
  st := h.st
  sf := fun b hb => ⟨(h.sf b hb).1, (h.sf b hb).2.1, Nat.lt_of_lt_of_le (h.sf b hb).2.2 hon.size⟩
  tb := h.tb
  fb := h.fb
  d := Nat.le_trans h.d hon.size
theorem DAt.ext (h : DAt w0 W Z M c D S St Sf vt vf lt lf s) (u : Ext) : DAt w0 (W.ext u) Z M c D S St Sf vt vf lt lf s := h.call ((Only.refl c W).ext u) (h.cb.cur.ext u)
theorem DAt.push0 (h : DAt w0 W Z M c D S St (fun _ => False) vt (.slice none 0 0) lt [] s) (hg : W.grownBy W' vt.ownBlock) (ho : OwnL W' (M + 1) 35 St' vt' lt') (st : ∀ b, St' b → M < b ∧ b < W'.heap.size) : DAt w0 (W'.setCell ⟨M, 0, none⟩ vt') Z M c W'.heap.size S St' (fun _ => False) vt' (.slice none 0 0) lt' [] s where
  cb := (h.cb.grown hg (fun g e => (h.ot.below_ g e).1)).set rfl
  ot := ho.setCell (fun e => by have h5 : M < M := (st _ e).1; omega) (fun e => by have h5 : M + 1 ≤ M := (ho.below_ _ e).1; omega) _
  of := OwnL.nil_ _ _ _ _
  st := st
  sf := fun _ h => h.elim
  tb := fun b hb => (ho.below_ b hb).2
  fb := fun _ h => by simp [Value.ownBlock] at h
  d := by simp
theorem DAt.push1 (h : DAt w0 W Z M c D S St Sf vt vf lt lf s) (hg : W.grownBy W' vf.ownBlock) (ho : OwnL W' (M + 1) 37 Sf' vf' lf') (sf : ∀ b, Sf' b → M < b ∧ D ≤ b ∧ b < W'.heap.size) (fb : ∀ b, vf'.ownBlock = some b → D ≤ b) : DAt w0 (W'.setCell ⟨M, 1, none⟩ vf') Z M c D S St Sf' vt vf' lt lf' s where
  cb := (h.cb.grown hg (fun g e => (h.of.below_ g e).1)).set rfl
  ot := (h.ot.keep hg.size (fun b hb hl => hg.block b hl (fun e => by have := h.fb b e.symm; have := (h.st b hb).2; omega)) fun g hgt => hg.block g (h.ot.below_ g hgt).2 (fun e => by have := h.fb g e.symm; have := h.tb g hgt; omega)).setCell (fun e => by have h5 : M < M := (h.st _ e).1; omega) (fun e => by have h5 : M + 1 ≤ M := (h.ot.below_ _ e).1; omega) _
  of := ho.setCell (fun e => by have h5 : M < M := (sf _ e).1; omega) (fun e => by have h5 : M + 1 ≤ M := (ho.below_ _ e).1; omega) _
  st := h.st
  sf := fun b hb => by have := sf b hb; simpa using this
  tb := h.tb
  fb := fb
  d := by have := h.d; have := hg.size; simp; omega
theorem DB.cells (h : DB w0 W Z M c S vt vf s) : W.cell? ⟨M, 0, none⟩ = some vt ∧ W.cell? ⟨M, 1, none⟩ = some vf ∧ W.frozen? ⟨M, 0, none⟩ = false ∧ W.frozen? ⟨M, 1, none⟩ = false ∧ M < W.heap.size :=
  ⟨cell_of_row W M _ _ _ (0, 0) h.row, cell_of_row W M _ _ _ (0, 0) h.row, by simp [World.frozen?, h.row], by simp [World.frozen?, h.row], h.ml⟩
theorem DB.zcells (h : DB w0 W Z M c S vt vf s) : W.cell? ⟨Z, 0, none⟩ = some (.slice none 0 0) ∧ W.cell? ⟨Z, 1, none⟩ = some (.slice none 0 0) ∧ W.frozen? ⟨Z, 0, none⟩ = false ∧ W.frozen? ⟨Z, 1, none⟩ = false ∧ Z < W.heap.size :=
  ⟨cell_of_row W Z _ _ _ (0, 0) h.zro, cell_of_row W Z _ _ _ (0, 0) h.zro, by simp [World.frozen?, h.zro], by simp [World.frozen?, h.zro], h.zl⟩
/-- What is returned is written. -/
theorem DAt.fin (h : DAt w0 W Z M c D S St Sf vt vf lt lf s) (a b : Value) : ((W.setCell ⟨Z, 0, none⟩ a).setCell ⟨Z, 1, none⟩ b).heap[Z]? = some (.cells #[a, b] 26 (0, 0)) ∧ OwnL ((W.setCell ⟨Z, 0, none⟩ a).setCell ⟨Z, 1, none⟩ b) (M + 1) 35 St vt lt ∧ OwnL ((W.setCell ⟨Z, 0, none⟩ a).setCell ⟨Z, 1, none⟩ b) (M + 1) 37 Sf vf lf ∧ Below Z w0 ((W.setCell ⟨Z, 0, none⟩ a).setCell ⟨Z, 1, none⟩ b) ∧ ((W.setCell ⟨Z, 0, none⟩ a).setCell ⟨Z, 1, none⟩ b).heap.size = W.heap.size := by
  have o1 := h.cb.o1; have o2 := h.cb.o2
  have hb : ∀ k, k ≠ Z → ((W.setCell ⟨Z, 0, none⟩ a).setCell ⟨Z, 1, none⟩ b).heap[k]? = W.heap[k]? := fun k hk =>
    (Below.heap_setCell _ ⟨Z, 1, none⟩ b k hk).trans (Below.heap_setCell _ ⟨Z, 0, none⟩ a k hk)
  refine ⟨?_, ?_, ?_, ?_, by simp⟩
  · rw [row_setB (row_setB h.cb.zro 0 a) 1 b]; rfl
  · exact h.ot.keep (by simp) (fun k hS _ => hb k (by have := (h.st k hS).1; omega)) fun g hg => hb g (by have := (h.ot.below_ g hg).1; omega)
  · exact h.of.keep (by simp) (fun k hS _ => hb k (by have := (h.sf k hS).1; omega)) fun g hg => hb g (by have := (h.of.below_ g hg).1; omega)
  · exact (h.cb.low.setCell (p := ⟨Z, 0, none⟩) (Nat.le_refl _) a).setCell (p := ⟨Z, 1, none⟩) (Nat.le_refl _) b
end
/-- A tile that has been read since block B, and the document's cursor behind it. -/
def DTileI (S : Nat → Prop) (c B : Nat) (q : Tile × Cur) : Post := fun v w => ∃ A n k, v = .agg #[.int .i64 q.1.kind, .int .i64 q.1.parent, .slice A n k] ∧ OwnL w B 3 (fun _ => False) (.slice A n k) q.1.blocks ∧ DocAt w S c q.2
theorem DTileI.stable_ {F : World → Prop} {S : Nat → Prop} {c B : Nat} {q : Tile × Cur} {mem : Bool} (hm : mem = true) : stable F mem (DTileI S c B q) :=
  stable_mem hm fun _ w u ⟨A, n, k, hv, h1, h2⟩ => ⟨A, n, k, hv, h1.ext u, h2.ext u⟩
def DFactsI (S : Nat → Prop) (c B : Nat) (q : List Fact × Cur) : Post := fun v w => ∃ A n k, v = .slice A n k ∧ OwnL w B 42 (fun _ => False) (.slice A n k) q.1 ∧ DocAt w S c q.2
theorem DFactsI.stable_ {F : World → Prop} {S : Nat → Prop} {c B : Nat} {q : List Fact × Cur} {mem : Bool} (hm : mem = true) : stable F mem (DFactsI S c B q) :=
  stable_mem hm fun _ w u ⟨A, n, k, hv, h1, h2⟩ => ⟨A, n, k, hv, h1.ext u, h2.ext u⟩
def DTileL (S : Nat → Prop) (c B : Nat) (q : Tile × Cur) : Post := fun v w => ∃ g A n k, v = .slice (some ⟨g, 0, none⟩) 1 1 ∧ B ≤ g ∧ w.heap[g]? = some (.cells #[.int .i64 q.1.kind, .int .i64 q.1.parent, .slice A n k] 35 (0, 0)) ∧ OwnL w B 3 (fun _ => False) (.slice A n k) q.1.blocks ∧ DocAt w S c q.2
theorem DTileL.stable_ {F : World → Prop} {S : Nat → Prop} {c B : Nat} {q : Tile × Cur} {mem : Bool} (hm : mem = true) : stable F mem (DTileL S c B q) :=
  stable_mem hm fun _ w u ⟨g, A, n, k, hv, hg, h0, h1, h2⟩ => ⟨g, A, n, k, hv, hg, (by rw [ext_block w u g (Array.getElem?_eq_some_iff.1 h0).1]; exact h0), h1.ext u, h2.ext u⟩
def DFactsB (S : Nat → Prop) (c B : Nat) (q : List Fact × Cur) : Post := fun v w => ∃ g A n k, v = .slice (some ⟨g, 0, none⟩) 1 1 ∧ B ≤ g ∧ w.heap[g]? = some (.cells #[.slice A n k] 37 (0, 0)) ∧ OwnL w B 42 (fun _ => False) (.slice A n k) q.1 ∧ DocAt w S c q.2
theorem DFactsB.stable_ {F : World → Prop} {S : Nat → Prop} {c B : Nat} {q : List Fact × Cur} {mem : Bool} (hm : mem = true) : stable F mem (DFactsB S c B q) :=
  stable_mem hm fun _ w u ⟨g, A, n, k, hv, hg, h0, h1, h2⟩ => ⟨g, A, n, k, hv, hg, (by rw [ext_block w u g (Array.getElem?_eq_some_iff.1 h0).1]; exact h0), h1.ext u, h2.ext u⟩
end Go.Proofs.YtppkanniefignaaGreatDoor
set_option linter.unusedSimpArgs false
set_option linter.unusedVariables false
namespace Go.Proofs.YtppkanniefignaaGreatDoor
open Go.RowKit Go.Maps
set_option maxRecDepth 100000 in
set_option maxHeartbeats 32000000 in
theorem dparse28_any (s : ByteArray) (w : World) : Calls Tryz.prog 9 #[.string s] w (CertP (parse28 s) w) := by
  by_cases hbig : 262144 < s.size
  · have hg : parse28 s = (⟨[], []⟩, 0, 0, 3) := by unfold parse28; rw [if_pos hbig]
    rw [hg]
    go_enter Tryz.func9, Tryz.ntmps9
    go_wp2_with fail
    refine bodyPost_ret (results_cert Tryz.results9 _ _ rfl (heap_alloc_new w _)) rfl ?_
    have hb := (Below.refl w.heap.size w).alloc (Nat.le_refl _) (.cells #[.slice none 0 0, .slice none 0 0] 26)
    exact ⟨none, 0, 0, none, 0, 0, _, _, _, rfl, CertO.none_ _ _ hb.size, hb⟩
  obtain ⟨i0, hi, hz, hz1, hz2⟩ := info_parts info_Tile28
  have HI0 := hide hi; have HZ := hide hz; have HZ1 := hide hz1; have HZ2 := hide hz2
  clear hi hz hz1 hz2
  obtain ⟨i1, hi, hz, hz1, hz2⟩ := info_parts info_Facts28
  have HI1 := hide hi; have HY := hide hz; have HY1 := hide hz1; have HY2 := hide hz2
  clear hi hz hz1 hz2
  have hs : s.size ≤ 262144 := by omega
  have hl := overT_len28 s hs
  obtain ⟨Z, hZ⟩ : ∃ C, w.heap.size = C := ⟨_, rfl⟩
  obtain ⟨W0, hW0⟩ : ∃ W0, w.alloc (.cells #[.slice none 0 0, .slice none 0 0] 26) = W0 := ⟨_, rfl⟩
  have HOV := hide (show Calls Tryz.prog 35 #[.string s] W0 (fun e w' => ∃ c, e = .returned (.pointer (some ⟨c, 0, none⟩)) ∧ DocAt w' (fun b => W0.heap.size ≤ b ∧ b < c) c (overT s) ∧ W0.heap.size ≤ c ∧ Below W0.heap.size W0 w') from dOver1 s W0 (by omega))
  obtain ⟨X, hX⟩ : ∃ X, tilesC ([], overT s) = X := ⟨_, rfl⟩
  obtain ⟨Y, hY⟩ : ∃ Y, edgesC ([], X.2) = Y := ⟨_, rfl⟩
  have hp : parse28 s = if (errC Y.2).2.2 ≠ 0 then (⟨[], []⟩, errC Y.2) else (⟨X.1, Y.1⟩, 0, 0, 0) := by
    unfold parse28 certC
    rw [if_neg hbig]
    simp only
    rw [hX, hY]
  obtain ⟨R, hR⟩ : ∃ Z, parse28 s = Z := ⟨_, rfl⟩
  rw [hR] at hp ⊢
  have HPZ := hide hp
  clear hR
  have HXQ := hide hX; have HYQ := hide hY; have HLQ := hide hl
  have HW0 := hide hW0
  clear hp hX hY hl hW0
  go_enter Tryz.func9, Tryz.ntmps9
  go_wp2_with (go_at_call 35; refine Hd.out ?_)
  rw [HW0.out]
  refine hide ?_
  refine HOV.out.mono ?_
  rintro e V1 ⟨c, rfl, hat, hcz, hb1⟩
  have HAT := hide hat; have HB1 := hide hb1
  clear hat hb1
  obtain ⟨M, hM⟩ : ∃ M, V1.heap.size = M := ⟨_, rfl⟩
  obtain ⟨W3, hW3⟩ : ∃ W3, V1.alloc (.cells #[.slice none 0 0, .slice none 0 0] 26) = W3 := ⟨_, rfl⟩
  obtain ⟨S0, hS0⟩ : ∃ S0 : Nat → Prop, S0 = fun b => W0.heap.size ≤ b ∧ b < c := ⟨_, rfl⟩
  have hz0 : Z + 1 = W0.heap.size := by rw [← HW0.out, ← hZ]; simp
  have hz1 : c < V1.heap.size := HAT.out.lt
  have HC := hide (show DAt w W3 Z M c W3.heap.size S0 (fun _ => False) (fun _ => False) (.slice none 0 0) (.slice none 0 0) [] [] (overT s) from by
    have hb1 := HB1.out; have hat := HAT.out
    rw [← hS0] at hat
    refine ⟨⟨?_, ?_, ?_, ?_, by omega, by omega, fun b h => by rw [hS0] at h; omega⟩, OwnL.nil_ _ _ _ _, OwnL.nil_ _ _ _ _, fun _ h => h.elim, fun _ h => h.elim, fun _ h => by simp [Value.ownBlock] at h, fun _ h => by simp [Value.ownBlock] at h, Nat.le_refl _⟩
    · rw [← hW3, Below.heap_alloc _ _ _ (by omega), hb1.block Z (by omega), ← HW0.out, ← hZ]; exact heap_alloc_new w _
    · rw [← hW3, ← hM]; exact heap_alloc_new V1 _
    · rw [← hW3]; exact hat.alloc _
    · have hb0 : Below Z w W0 := by rw [← HW0.out, ← hZ]; exact (Below.refl _ _).alloc (Nat.le_refl _) _
      rw [← hW3]
      exact (hb0.trans (hb1.mono (by omega))).alloc (by omega) _)
  have HCQ := hide hZ
  have HMQ := hide hM; have HW3 := hide hW3
  clear hz0 hz1 hZ hM hW3 hS0 HB1 HAT HOV hcz
  go_wp2_with fail
  try rw [HCQ.out]
  try rw [HMQ.out]
  try rw [HW3.out]
  go_loopw [] (fun wr => ∃ (A : Option Addr) (n k : Nat) (l : List Tile) (s' : Cur) (D : Nat) (St : Nat → Prop), l.length = n ∧ DAt w wr Z M c D S0 St (fun _ => False) (.slice A n k) (.slice none 0 0) l [] s' ∧ tilesC (l, s') = X ∧ n + leftC s' ≤ 1099511627770 ∧ (n ≤ 200 ∨ leftC s' = 0)) (fun wr => leftM c wr)
  case atStart => exact ⟨none, 0, 0, [], overT s, _, _, rfl, HC.out, HXQ.out, by have := HLQ.out; simpa using this, .inl (by omega)⟩
  case round =>
    obtain ⟨A, n, k, l, s', D, St, hn, ht, hx, hll, hnx⟩ := hrel
    have HT := hide ht; have HXX := hide hx; have HN := hide hn; have HLL := hide hll; have HNX0 := hide hnx
    have HLE := hide ht.cb.cur.leftM_
    clear ht hx hn hll HC hnx
    obtain ⟨m0, m1, f0, f1, ml⟩ := HT.out.cb.cells
    cases hk : isC (.nm tTile) s' with
    | false =>
      have HK := hide (show Calls Tryz.prog 36 #[.pointer (some ⟨c, 0, none⟩), .string ⟨#[116, 105, 108, 101]⟩] wr (DocP S0 c wr s' (.bool false)) from by have h := dKey HT.out.cb.cur tTile; rw [hk] at h; exact h)
      have HX1 := hide (show X = (l, s') from by rw [← HXX.out]; exact tilesC_stop (by unfold tilesG; rw [if_neg (by simp only; rw [hk]; decide)]))
      clear hk
      go_wp2_with (first | (go_at_call 36; (with_reducible refine HK.out.mono ?_); rintro e V4 ⟨rfl, hat, hon⟩; have HT4 := hide (HT.out.call hon hat); clear hat hon))
      clear m0 m1 f0 f1 ml HK HT HLE HXX HNX0
      have HN0 := HN
      go_loopw [] (fun wr => ∃ (B : Option Addr) (m j : Nat) (lf : List (List Fact)) (s2 : Cur) (Sf : Nat → Prop), lf.length = m ∧ DAt w wr Z M c D S0 St Sf (.slice A n k) (.slice B m j) l lf s2 ∧ edgesC (lf, s2) = Y ∧ m + leftC s2 ≤ 1099511627770 ∧ (m ≤ 400 ∨ leftC s2 = 0)) (fun wr => leftM c wr)
      case atStart => exact ⟨none, 0, 0, [], s', _, rfl, HT4.out, by rw [← HYQ.out, HX1.out], by have := HLL.out; omega, .inl (by omega)⟩
      case round =>
        obtain ⟨B, m, j, lf, s2, Sf, hn, ht, hx, hll, hnx⟩ := hrel
        have HT := hide ht; have HXX := hide hx; have HM := hide hn; have HLM := hide hll; have HNX0 := hide hnx
        have HLE := hide ht.cb.cur.leftM_
        clear ht hx hn hll HT4 HLL hnx
        obtain ⟨m0, m1, f0, f1, ml⟩ := HT.out.cb.cells
        cases hk : isC (.nm tEdge) s2 with
        | false =>
          have HK := hide (show Calls Tryz.prog 36 #[.pointer (some ⟨c, 0, none⟩), .string ⟨#[101, 100, 103, 101]⟩] wr (DocP S0 c wr s2 (.bool false)) from by have h := dKey HT.out.cb.cur tEdge; rw [hk] at h; exact h)
          have HY1 := hide (show Y = (lf, s2) from by rw [← HXX.out]; exact edgesC_stop (by unfold edgesG; rw [if_neg (by simp only; rw [hk]; decide)]))
          clear hk
          go_wp2_with (first | (go_at_call 36; (with_reducible refine HK.out.mono ?_); rintro e V5 ⟨rfl, hat, hon⟩; have HT5 := hide (HT.out.call hon hat); clear hat hon; refine Hd.out ?_))
          clear m0 m1 f0 f1 ml HK HT HLE HXX
          obtain ⟨⟨el, ec, ee⟩, he9⟩ : ∃ x, errC s2 = x := ⟨_, rfl⟩
          have HER := hide (show Calls Tryz.prog 40 #[.pointer (some ⟨c, 0, none⟩)] V5 (RetX (.tuple #[.int .i64 el, .int .i64 ec, .int .i64 ee]) V5) from by have h := dErr HT5.out.cb.cur; unfold errV at h; rw [he9] at h; exact h)
          have HZZ := hide (show R = if ee ≠ 0 then (⟨[], []⟩, el, ec, ee) else (⟨l, lf⟩, 0, 0, 0) from by rw [HPZ.out, HY1.out, HX1.out]; simp only; rw [he9])
          clear he9
          by_cases hee : ee = 0
          · have heb : (ee != 0) = false := by simp [hee]
            have HZE := hide (show R = (⟨l, lf⟩, 0, 0, 0) from by rw [HZZ.out, if_neg (by simpa using hee)])
            clear hee
            refine hide ?_
            go_wp2_with (first | (go_at_call 40; (with_reducible refine HER.out.mono ?_); rintro e V9 ⟨rfl, u9, hu⟩; have HT9 := hide (hu ▸ HT5.out.ext u9); clear hu; refine Hd.out ?_))
            clear HER HT5
            obtain ⟨m0, m1, f0, f1, ml⟩ := HT9.out.cb.cells
            obtain ⟨z0, z1, y0, y1, zl⟩ := HT9.out.cb.zcells
            have HFN := hide (HT9.out.fin (.slice A n k) (.slice B m j))
            refine hide ?_
            go_wp2_with fail
            refine bodyPost_ret (results_cert Tryz.results9 _ _ rfl HFN.out.1) rfl ?_
            rw [HZE.out]
            have hC := HCQ.out
            obtain ⟨_, hf1, hf2, hf3, hf4⟩ := HFN.out
            exact ⟨A, n, k, B, m, j, D, St, Sf, rfl, ⟨hf1.lower28 (by have := HT9.out.cb.o1; have := HT9.out.cb.o2; omega), hf2.lower28 (by have := HT9.out.cb.o1; have := HT9.out.cb.o2; omega), fun b h => by have := HT9.out.st b h; have := HT9.out.cb.o1; have := HT9.out.cb.o2; omega, fun b h => by have := HT9.out.sf b h; have := HT9.out.cb.o1; have := HT9.out.cb.o2; omega, HT9.out.tb, HT9.out.fb, by have := HT9.out.d; omega⟩, hC ▸ hf3⟩
          · have heb : (ee != 0) = true := by simpa using hee
            have HZE := hide (show R = (⟨[], []⟩, el, ec, ee) from by rw [HZZ.out, if_pos hee])
            clear hee
            refine hide ?_
            go_wp2_with (first | (go_at_call 40; (with_reducible refine HER.out.mono ?_); rintro e V9 ⟨rfl, u9, hu⟩; have HT9 := hide (hu ▸ HT5.out.ext u9); clear hu; refine Hd.out ?_))
            clear HER HT5
            obtain ⟨m0, m1, f0, f1, ml⟩ := HT9.out.cb.cells
            obtain ⟨z0, z1, y0, y1, zl⟩ := HT9.out.cb.zcells
            have HFN := hide (HT9.out.fin (.slice none 0 0) (.slice none 0 0))
            refine hide ?_
            go_wp2_with fail
            refine bodyPost_ret (results_cert Tryz.results9 _ _ rfl HFN.out.1) rfl ?_
            rw [HZE.out]
            have hC := HCQ.out
            obtain ⟨_, hf1, hf2, hf3, hf4⟩ := HFN.out
            exact ⟨none, 0, 0, none, 0, 0, _, _, _, rfl, CertO.none_ _ _ (by have := HT9.out.cb.zl; omega), hC ▸ hf3⟩
        | true =>
          have hn400 : m ≤ 400 := by have h1 := left_is hk; rcases HNX0.out with h | h; exact h; omega
          obtain ⟨s1, hs1⟩ : ∃ s1, unlessC (decide (m < 400)) 3 (popC s2) = s1 := ⟨_, rfl⟩
          obtain ⟨q, hq⟩ : ∃ q, factsC s1 = q := ⟨_, rfl⟩
          have hgo : edgesG (lf, s2) = some (lf ++ [q.1], q.2) := by
            unfold edgesG
            rw [if_pos hk]
            simp only
            rw [HM.out, hs1, hq]
          have HGO := hide (show edgesC (lf ++ [q.1], q.2) = Y from by rw [← HXX.out, edgesC_go hgo])
          have HDEC := hide (show leftC q.2 < leftC s2 from edgesG_dec _ _ hgo)

          have hls : leftC s1 ≤ 1099511627770 := by
            have h1 := left_unless (x := 3) (by decide) (decide (m < 400)) (popC s2)
            rw [hs1, left_pop] at h1
            have := HLM.out
            omega
          have HNX := hide (show m + 1 ≤ 400 ∨ leftC q.2 = 0 from by
            rcases Nat.lt_or_ge m 400 with h | h
            · exact .inl (by omega)
            · right
              have h1 : leftC s1 = 0 := by rw [← hs1, decide_eq_false (by omega)]; exact left_fail (by decide) _
              have h2 := left_factsC s1
              rw [hq] at h2
              omega)
          have HFL2 := hide (fun (W : World) (h : DocAt W S0 c s1) => show Calls Tryz.prog 39 #[.pointer (some ⟨c, 0, none⟩)] W (FactsPd S0 c q W) from hq ▸ dfacts28_any W S0 c s1 h (by omega))
          have HK := hide (show Calls Tryz.prog 36 #[.pointer (some ⟨c, 0, none⟩), .string ⟨#[101, 100, 103, 101]⟩] wr (DocP S0 c wr (popC s2) (.bool true)) from by have h := dKey HT.out.cb.cur tEdge; rw [hk] at h; exact h)
          have HS1Q := hide hs1
          clear hgo hk hs1 hq hls
          go_wp2_with (first | (go_at_call 36; (with_reducible refine HK.out.mono ?_); rintro e V4 ⟨rfl, hat, hon⟩; have HT4 := hide (HT.out.call hon hat); clear hat hon; refine Hd.out ?_))
          clear m0 m1 f0 f1 ml HK HT
          obtain ⟨m0, m1, f0, f1, ml⟩ := HT4.out.cb.cells
          by_cases hn2 : m = 400
          · have hnb : ((m : Int) == 400) = true := by simp; omega
            have HFL := hide (show Calls Tryz.prog 37 #[.pointer (some ⟨c, 0, none⟩), .int .i64 3] V4 (DocP S0 c V4 s1 (.tuple #[])) from by have h := dFail HT4.out.cb.cur 3; rw [← HS1Q.out, hn2]; exact h)
            clear hn2
            refine hide ?_
            go_wp2_with (first | (go_at_call 37; (with_reducible refine HFL.out.mono ?_); rintro e V6 ⟨rfl, hat, hon⟩; have HT6 := hide (HT4.out.call hon hat); clear hat hon))
            clear m0 m1 f0 f1 ml HFL HT4
            obtain ⟨m0, m1, f0, f1, ml⟩ := HT6.out.cb.cells
            have hcM : M ≠ c := by have := HT6.out.cb.o2; omega
            obtain ⟨E, hE⟩ : ∃ E, V6.heap.size = E := ⟨_, rfl⟩
            have HEQ := hide hE
            refine wp_region_cur c [3] [3, 4] 5 (by kernel_rfl) rfl (by kernel_rfl) (by kernel_rfl) ?_
            simp only [List.take_succ_cons, List.take_zero, List.drop_succ_cons, List.drop_zero]
            repeat (refine flowG_known (by kernel_rfl) (fun K hK => ?_); go_simp; (first | (refine hK _ ?_; clear hK K) | (apply Exists.intro; refine ⟨fun w' => ?_, hK _ ?_⟩; (fail); clear hK K)))
            refine flowG_knownF (by kernel_rfl) (fun K hK => ⟨.slice B m j, fun W' hW' => ?_, hK _ ?_⟩)
            · have x0 : W'.cell? ⟨M, 1, none⟩ = some (.slice B m j) := (World.cell?_of_block (hW'.block M ml hcM)).trans m1
              have x1 : M < W'.heap.size := Nat.lt_of_lt_of_le ml hW'.size
              go_simp
            clear hK K
            repeat (refine flowG_known (by kernel_rfl) (fun K hK => ?_); go_simp; (first | (refine hK _ ?_; clear hK K) | (apply Exists.intro; refine ⟨fun w' => ?_, hK _ ?_⟩; (fail); clear hK K)))
            refine flowG_keep [] (DFactsI S0 c E q) (by kernel_rfl) (DFactsI.stable_ rfl) (by kernel_rfl) (fun u hF => ?_) ?_
            · try simp only [List.nil_append, List.cons_append, useH_f, useH_t, useH_nil]
              go_simp
              refine (HFL2.out _ (HT6.out.cb.cur.ext u)).mono ?_
              rintro e w' ⟨A1, n1, k1, rfl, ho1, hat, hon⟩
              exact ⟨_, rfl, ⟨A1, n1, k1, rfl, ho1.lower28 (by rw [size_ext]; have := HEQ.out; omega), hat⟩, hF.trans hon, fun h => by cases h⟩
            refine flowG_keepF [true] (DFactsB S0 c E q) (by kernel_rfl) (DFactsB.stable_ rfl) (fun W' hW' => ?_) ?_
            · try simp only [List.nil_append, List.cons_append, useH_f, useH_t, useH_nil]
              rintro _ ⟨A1, n1, k1, rfl, ho1, hat⟩
              go_simp
              exact ⟨⟨_, A1, n1, k1, rfl, (by have := HEQ.out; have := hW'.size; omega), heap_alloc_new W' _, ho1.alloc _, hat.alloc _⟩, hW'.alloc _, fun _ => ext_alloc W' _⟩
            refine flowG_done [true, true] (by kernel_rfl) (fun W' hW' => ?_)
            simp only [List.nil_append, List.cons_append, endH_f, endH_t, endH_nil]
            rintro _ - _ ⟨g, A1, n1, k1, rfl, hg, hrow, ho1, hat⟩
            go_simp
            have HT7 := hide (HT6.out.call hW' hat)
            have HRW := hide hrow; have HO1 := hide ho1; have HGB := hide hg
            have HSW := hide hW'.size
            clear m0 m1 f0 f1 ml hcM hat hrow ho1 hg hE
            obtain ⟨Sf', hSt'⟩ : ∃ St' : Nat → Prop, St' = fun b => Sf b ∨ (E ≤ b ∧ b < W'.heap.size) := ⟨_, rfl⟩
            have HST := hide hSt'
            clear hSt'
            refine wpList_push_at (α := RowR Fact) W' rfl (.tmp 41) (.tmp 44) 24 rfl (M + 1) 37 i1 _ 24 Tryz.underlying24 HI1.out HY.out HY1.out HY2.out rfl (by decide) Sf Sf' (.slice B m j) lf [q.1] rfl HT7.out.of ⟨g, 0, none⟩ 1 1 [.slice A1 n1 k1] rfl rfl
              (RepL.single (show Rep.is (α := RowR Fact) W' Sf' q.1 [.slice A1 n1 k1] from ⟨A1, n1, k1, rfl, HO1.out.sl (fun b hb h => by rw [HST.out]; rcases h with h | h; exact h.elim; exact .inr ⟨h, hb⟩), HO1.out.room (fun b hb h => by rw [HST.out]; exact .inr ⟨hb, h⟩)⟩))
              (fun j u hj => lit_news (us := [.slice A1 n1 k1]) HRW.out j u hj)
              (fun b _ h => by rw [HST.out]; exact .inl h)
              (fun x hx h => by
                rw [HST.out] at h
                rcases h with h | h
                · obtain ⟨_, _, _, h3⟩ := HT7.out.of
                  exact h3 x hx h
                · have := (HT6.out.of.below_ x hx).2; have := HEQ.out; omega)
              (fun b h => by
                rw [HST.out] at h
                rcases h with h | h
                · exact (HT7.out.sf b h).2.2
                · exact h.2)
              (by have h1 : List.length (α := RowR Fact) lf = m := HM.out; have := HLM.out; unfold maxLen; omega) (by have h1 : List.length (α := RowR Fact) lf = m := HM.out; have := HLM.out; omega) (by have := HT7.out.cb.ml; omega) ?_
            intro v' W2 ho2 hgr h5
            have HBG := hide (HT7.out.cb.grown hgr (fun x e => (HT7.out.of.below_ x e).1))
            have HTG := hide (HT7.out.push1 hgr ho2 (fun b h => by
                rw [HST.out] at h
                have := hgr.size
                rcases h with h | h
                · have h1 := HT7.out.sf b h; omega
                · have := HT6.out.cb.ml; have := HEQ.out; have := HT6.out.d; omega)
              (fun b e => by
                rcases h5 with h5 | h5
                · exact HT7.out.fb b (h5 ▸ e)
                · rw [h5] at e; injection e with e; have := HT7.out.d; omega))
            have hl1 : List.length (α := RowR Fact) (lf ++ [q.1]) = m + 1 := by have h1 : List.length (α := RowR Fact) lf = m := HM.out; rw [← h1]; exact List.length_append
            obtain ⟨A', k', rfl⟩ : ∃ A' k', v' = .slice A' (m + 1) k' := by
              obtain ⟨A', k', h⟩ := ho2.form
              exact ⟨A', k', h.trans (congrArg (fun m => Value.slice A' m k') hl1)⟩
            clear ho2 hgr h5
            obtain ⟨m0, m1, f0, f1, ml⟩ := HBG.out.cells
            obtain ⟨Y3, hY3⟩ : ∃ Y, W2.setCell ⟨M, 1, none⟩ (.slice A' (m + 1) k') = Y := ⟨_, rfl⟩
            rw [hY3] at HTG
            go_wp2_with fail
            try rw [hY3]
            have HLY := hide HTG.out.cb.cur.leftM_
            clear hY3
            go_roundw
            case rel => exact ⟨A', m + 1, k', lf ++ [q.1], q.2, _, hl1, HTG.out, HGO.out, by have := HLM.out; have := HDEC.out; omega, HNX.out⟩
            case measure => rw [HLY.out, HLE.out]; exact HDEC.out
          · have hnb : ((m : Int) == 400) = false := by simp; omega
            have HT6 := hide (show DAt w V4 Z M c D S0 St Sf (.slice A n k) (.slice B m j) l lf s1 from by have h := HT4.out; rw [← HS1Q.out, decide_eq_true (by omega)]; exact h)
            clear hn2
            refine hide ?_
            go_wp2_with fail
            clear m0 m1 f0 f1 ml HT4
            obtain ⟨V6, hV6⟩ : ∃ V, V4 = V := ⟨_, rfl⟩
            rw [hV6] at HT6 ⊢
            obtain ⟨m0, m1, f0, f1, ml⟩ := HT6.out.cb.cells
            have hcM : M ≠ c := by have := HT6.out.cb.o2; omega
            obtain ⟨E, hE⟩ : ∃ E, V6.heap.size = E := ⟨_, rfl⟩
            have HEQ := hide hE
            refine wp_region_cur c [3] [3, 4] 5 (by kernel_rfl) rfl (by kernel_rfl) (by kernel_rfl) ?_
            simp only [List.take_succ_cons, List.take_zero, List.drop_succ_cons, List.drop_zero]
            repeat (refine flowG_known (by kernel_rfl) (fun K hK => ?_); go_simp; (first | (refine hK _ ?_; clear hK K) | (apply Exists.intro; refine ⟨fun w' => ?_, hK _ ?_⟩; (fail); clear hK K)))
            refine flowG_knownF (by kernel_rfl) (fun K hK => ⟨.slice B m j, fun W' hW' => ?_, hK _ ?_⟩)
            · have x0 : W'.cell? ⟨M, 1, none⟩ = some (.slice B m j) := (World.cell?_of_block (hW'.block M ml hcM)).trans m1
              have x1 : M < W'.heap.size := Nat.lt_of_lt_of_le ml hW'.size
              go_simp
            clear hK K
            repeat (refine flowG_known (by kernel_rfl) (fun K hK => ?_); go_simp; (first | (refine hK _ ?_; clear hK K) | (apply Exists.intro; refine ⟨fun w' => ?_, hK _ ?_⟩; (fail); clear hK K)))
            refine flowG_keep [] (DFactsI S0 c E q) (by kernel_rfl) (DFactsI.stable_ rfl) (by kernel_rfl) (fun u hF => ?_) ?_
            · try simp only [List.nil_append, List.cons_append, useH_f, useH_t, useH_nil]
              go_simp
              refine (HFL2.out _ (HT6.out.cb.cur.ext u)).mono ?_
              rintro e w' ⟨A1, n1, k1, rfl, ho1, hat, hon⟩
              exact ⟨_, rfl, ⟨A1, n1, k1, rfl, ho1.lower28 (by rw [size_ext]; have := HEQ.out; omega), hat⟩, hF.trans hon, fun h => by cases h⟩
            refine flowG_keepF [true] (DFactsB S0 c E q) (by kernel_rfl) (DFactsB.stable_ rfl) (fun W' hW' => ?_) ?_
            · try simp only [List.nil_append, List.cons_append, useH_f, useH_t, useH_nil]
              rintro _ ⟨A1, n1, k1, rfl, ho1, hat⟩
              go_simp
              exact ⟨⟨_, A1, n1, k1, rfl, (by have := HEQ.out; have := hW'.size; omega), heap_alloc_new W' _, ho1.alloc _, hat.alloc _⟩, hW'.alloc _, fun _ => ext_alloc W' _⟩
            refine flowG_done [true, true] (by kernel_rfl) (fun W' hW' => ?_)
            simp only [List.nil_append, List.cons_append, endH_f, endH_t, endH_nil]
            rintro _ - _ ⟨g, A1, n1, k1, rfl, hg, hrow, ho1, hat⟩
            go_simp
            have HT7 := hide (HT6.out.call hW' hat)
            have HRW := hide hrow; have HO1 := hide ho1; have HGB := hide hg
            have HSW := hide hW'.size
            clear m0 m1 f0 f1 ml hcM hat hrow ho1 hg hE
            obtain ⟨Sf', hSt'⟩ : ∃ St' : Nat → Prop, St' = fun b => Sf b ∨ (E ≤ b ∧ b < W'.heap.size) := ⟨_, rfl⟩
            have HST := hide hSt'
            clear hSt'
            refine wpList_push_at (α := RowR Fact) W' rfl (.tmp 41) (.tmp 44) 24 rfl (M + 1) 37 i1 _ 24 Tryz.underlying24 HI1.out HY.out HY1.out HY2.out rfl (by decide) Sf Sf' (.slice B m j) lf [q.1] rfl HT7.out.of ⟨g, 0, none⟩ 1 1 [.slice A1 n1 k1] rfl rfl
              (RepL.single (show Rep.is (α := RowR Fact) W' Sf' q.1 [.slice A1 n1 k1] from ⟨A1, n1, k1, rfl, HO1.out.sl (fun b hb h => by rw [HST.out]; rcases h with h | h; exact h.elim; exact .inr ⟨h, hb⟩), HO1.out.room (fun b hb h => by rw [HST.out]; exact .inr ⟨hb, h⟩)⟩))
              (fun j u hj => lit_news (us := [.slice A1 n1 k1]) HRW.out j u hj)
              (fun b _ h => by rw [HST.out]; exact .inl h)
              (fun x hx h => by
                rw [HST.out] at h
                rcases h with h | h
                · obtain ⟨_, _, _, h3⟩ := HT7.out.of
                  exact h3 x hx h
                · have := (HT6.out.of.below_ x hx).2; have := HEQ.out; omega)
              (fun b h => by
                rw [HST.out] at h
                rcases h with h | h
                · exact (HT7.out.sf b h).2.2
                · exact h.2)
              (by have h1 : List.length (α := RowR Fact) lf = m := HM.out; have := HLM.out; unfold maxLen; omega) (by have h1 : List.length (α := RowR Fact) lf = m := HM.out; have := HLM.out; omega) (by have := HT7.out.cb.ml; omega) ?_
            intro v' W2 ho2 hgr h5
            have HBG := hide (HT7.out.cb.grown hgr (fun x e => (HT7.out.of.below_ x e).1))
            have HTG := hide (HT7.out.push1 hgr ho2 (fun b h => by
                rw [HST.out] at h
                have := hgr.size
                rcases h with h | h
                · have h1 := HT7.out.sf b h; omega
                · have := HT6.out.cb.ml; have := HEQ.out; have := HT6.out.d; omega)
              (fun b e => by
                rcases h5 with h5 | h5
                · exact HT7.out.fb b (h5 ▸ e)
                · rw [h5] at e; injection e with e; have := HT7.out.d; omega))
            have hl1 : List.length (α := RowR Fact) (lf ++ [q.1]) = m + 1 := by have h1 : List.length (α := RowR Fact) lf = m := HM.out; rw [← h1]; exact List.length_append
            obtain ⟨A', k', rfl⟩ : ∃ A' k', v' = .slice A' (m + 1) k' := by
              obtain ⟨A', k', h⟩ := ho2.form
              exact ⟨A', k', h.trans (congrArg (fun m => Value.slice A' m k') hl1)⟩
            clear ho2 hgr h5
            obtain ⟨m0, m1, f0, f1, ml⟩ := HBG.out.cells
            obtain ⟨Y3, hY3⟩ : ∃ Y, W2.setCell ⟨M, 1, none⟩ (.slice A' (m + 1) k') = Y := ⟨_, rfl⟩
            rw [hY3] at HTG
            go_wp2_with fail
            try rw [hY3]
            have HLY := hide HTG.out.cb.cur.leftM_
            clear hY3
            go_roundw
            case rel => exact ⟨A', m + 1, k', lf ++ [q.1], q.2, _, hl1, HTG.out, HGO.out, by have := HLM.out; have := HDEC.out; omega, HNX.out⟩
            case measure => rw [HLY.out, HLE.out]; exact HDEC.out
    | true =>
      have hn200 : n ≤ 200 := by have h1 := left_is hk; rcases HNX0.out with h | h; exact h; omega
      obtain ⟨s1, hs1⟩ : ∃ s1, unlessC (decide (n < 200)) 3 (popC s') = s1 := ⟨_, rfl⟩
      obtain ⟨q, hq⟩ : ∃ q, tileC s1 = q := ⟨_, rfl⟩
      have hgo : tilesG (l, s') = some (l ++ [q.1], q.2) := by
        unfold tilesG
        rw [if_pos hk]
        simp only
        rw [HN.out, hs1, hq]
      have HGO := hide (show tilesC (l ++ [q.1], q.2) = X from by rw [← HXX.out, tilesC_go hgo])
      have HDEC := hide (show leftC q.2 < leftC s' from tilesG_dec _ _ hgo)
      have HQI := hide (show InI q.1.kind ∧ InI q.1.parent from hq ▸ tileC_in s1)
      have hls : leftC s1 ≤ 1099511627770 := by
        have h1 := left_unless (x := 3) (by decide) (decide (n < 200)) (popC s')
        rw [hs1, left_pop] at h1
        have := HLL.out
        omega
      have HNX := hide (show n + 1 ≤ 200 ∨ leftC q.2 = 0 from by
        rcases Nat.lt_or_ge n 200 with h | h
        · exact .inl (by omega)
        · right
          have h1 : leftC s1 = 0 := by rw [← hs1, decide_eq_false (by omega)]; exact left_fail (by decide) _
          have h2 := left_tile s1
          rw [hq] at h2
          omega)
      have HTL := hide (fun (W : World) (h : DocAt W S0 c s1) => show Calls Tryz.prog 38 #[.pointer (some ⟨c, 0, none⟩)] W (TilePd S0 c q W) from hq ▸ dtile28_any W S0 c s1 h (by omega))
      have HK := hide (show Calls Tryz.prog 36 #[.pointer (some ⟨c, 0, none⟩), .string ⟨#[116, 105, 108, 101]⟩] wr (DocP S0 c wr (popC s') (.bool true)) from by have h := dKey HT.out.cb.cur tTile; rw [hk] at h; exact h)
      have HS1Q := hide hs1
      clear hgo hk hs1 hq hls
      go_wp2_with (first | (go_at_call 36; (with_reducible refine HK.out.mono ?_); rintro e V4 ⟨rfl, hat, hon⟩; have HT4 := hide (HT.out.call hon hat); clear hat hon; refine Hd.out ?_))
      clear m0 m1 f0 f1 ml HK HT
      obtain ⟨m0, m1, f0, f1, ml⟩ := HT4.out.cb.cells
      by_cases hn2 : n = 200
      · have hnb : ((n : Int) == 200) = true := by simp; omega
        have HFL := hide (show Calls Tryz.prog 37 #[.pointer (some ⟨c, 0, none⟩), .int .i64 3] V4 (DocP S0 c V4 s1 (.tuple #[])) from by have h := dFail HT4.out.cb.cur 3; rw [← HS1Q.out, hn2]; exact h)
        clear hn2
        refine hide ?_
        go_wp2_with (first | (go_at_call 37; (with_reducible refine HFL.out.mono ?_); rintro e V6 ⟨rfl, hat, hon⟩; have HT6 := hide (HT4.out.call hon hat); clear hat hon))
        clear m0 m1 f0 f1 ml HFL HT4
        obtain ⟨m0, m1, f0, f1, ml⟩ := HT6.out.cb.cells
        have hcM : M ≠ c := by have := HT6.out.cb.o2; omega
        obtain ⟨E, hE⟩ : ∃ E, V6.heap.size = E := ⟨_, rfl⟩
        have HEQ := hide hE
        refine wp_region_cur c [3] [3, 4] 5 (by kernel_rfl) rfl (by kernel_rfl) (by kernel_rfl) ?_
        simp only [List.take_succ_cons, List.take_zero, List.drop_succ_cons, List.drop_zero]
        repeat (refine flowG_known (by kernel_rfl) (fun K hK => ?_); go_simp; (first | (refine hK _ ?_; clear hK K) | (apply Exists.intro; refine ⟨fun w' => ?_, hK _ ?_⟩; (fail); clear hK K)))
        refine flowG_knownF (by kernel_rfl) (fun K hK => ⟨.slice A n k, fun W' hW' => ?_, hK _ ?_⟩)
        · have x0 : W'.cell? ⟨M, 0, none⟩ = some (.slice A n k) := (World.cell?_of_block (hW'.block M ml hcM)).trans m0
          have x1 : M < W'.heap.size := Nat.lt_of_lt_of_le ml hW'.size
          go_simp
        clear hK K
        repeat (refine flowG_known (by kernel_rfl) (fun K hK => ?_); go_simp; (first | (refine hK _ ?_; clear hK K) | (apply Exists.intro; refine ⟨fun w' => ?_, hK _ ?_⟩; (fail); clear hK K)))
        refine flowG_keep [] (DTileI S0 c E q) (by kernel_rfl) (DTileI.stable_ rfl) (by kernel_rfl) (fun u hF => ?_) ?_
        · try simp only [List.nil_append, List.cons_append, useH_f, useH_t, useH_nil]
          go_simp
          refine (HTL.out _ (HT6.out.cb.cur.ext u)).mono ?_
          rintro e w' ⟨A1, n1, k1, rfl, ho1, hat, hon⟩
          exact ⟨_, rfl, ⟨A1, n1, k1, rfl, ho1.lower28 (by rw [size_ext]; have := HEQ.out; omega), hat⟩, hF.trans hon, fun h => by cases h⟩
        refine flowG_keepF [true] (DTileL S0 c E q) (by kernel_rfl) (DTileL.stable_ rfl) (fun W' hW' => ?_) ?_
        · try simp only [List.nil_append, List.cons_append, useH_f, useH_t, useH_nil]
          rintro _ ⟨A1, n1, k1, rfl, ho1, hat⟩
          go_simp
          exact ⟨⟨_, A1, n1, k1, rfl, (by have := HEQ.out; have := hW'.size; omega), heap_alloc_new W' _, ho1.alloc _, hat.alloc _⟩, hW'.alloc _, fun _ => ext_alloc W' _⟩
        refine flowG_done [true, true] (by kernel_rfl) (fun W' hW' => ?_)
        simp only [List.nil_append, List.cons_append, endH_f, endH_t, endH_nil]
        rintro _ - _ ⟨g, A1, n1, k1, rfl, hg, hrow, ho1, hat⟩
        go_simp
        have HT7 := hide (HT6.out.call hW' hat)
        have HRW := hide hrow; have HO1 := hide ho1; have HGB := hide hg
        have HSW := hide hW'.size
        clear m0 m1 f0 f1 ml hcM hat hrow ho1 hg hE
        obtain ⟨St', hSt'⟩ : ∃ St' : Nat → Prop, St' = fun b => St b ∨ (E ≤ b ∧ b < W'.heap.size) := ⟨_, rfl⟩
        have HST := hide hSt'
        clear hSt'
        refine wpList_push_at (α := TileR) W' rfl (.tmp 26) (.tmp 29) 23 rfl (M + 1) 35 i0 _ 40 Tryz.underlying23 HI0.out HZ.out HZ1.out HZ2.out rfl (by decide) St St' (.slice A n k) l [q.1] rfl HT7.out.ot ⟨g, 0, none⟩ 1 1 [.int .i64 q.1.kind, .int .i64 q.1.parent, .slice A1 n1 k1] rfl rfl
          (RepL.single ⟨A1, n1, k1, rfl, HQI.out.1, HQI.out.2, HO1.out.sl (fun b hb h => by rw [HST.out]; rcases h with h | h; exact h.elim; exact .inr ⟨h, hb⟩), HO1.out.room (fun b hb h => by rw [HST.out]; exact .inr ⟨hb, h⟩)⟩)
          (fun j u hj => lit_news (us := [.int .i64 q.1.kind, .int .i64 q.1.parent, .slice A1 n1 k1]) HRW.out j u hj)
          (fun b _ h => by rw [HST.out]; exact .inl h)
          (fun x hx h => by
            rw [HST.out] at h
            rcases h with h | h
            · obtain ⟨_, _, _, h3⟩ := HT7.out.ot
              exact h3 x hx h
            · have := (HT6.out.ot.below_ x hx).2; have := HEQ.out; omega)
          (fun b h => by
            rw [HST.out] at h
            rcases h with h | h
            · have := (HT7.out.st b h).2; have := HT7.out.d; omega
            · exact h.2)
          (by have h1 : List.length (α := TileR) l = n := HN.out; have := HLL.out; unfold maxLen; omega) (by have h1 : List.length (α := TileR) l = n := HN.out; have := HLL.out; omega) (by have := HT7.out.cb.ml; omega) ?_
        intro v' W2 ho2 hgr h5
        have HBG := hide (HT7.out.cb.grown hgr (fun x e => (HT7.out.ot.below_ x e).1))
        have HTG := hide (HT7.out.push0 hgr ho2 (fun b h => by
          rw [HST.out] at h
          have := hgr.size
          rcases h with h | h
          · have h1 := HT7.out.st b h; have := HT7.out.d; omega
          · have := HT6.out.cb.ml; have := HEQ.out; omega))
        have hl1 : List.length (α := TileR) (l ++ [q.1]) = n + 1 := by have h1 : List.length (α := TileR) l = n := HN.out; rw [← h1]; exact List.length_append
        obtain ⟨A', k', rfl⟩ : ∃ A' k', v' = .slice A' (n + 1) k' := by
          obtain ⟨A', k', h⟩ := ho2.form
          exact ⟨A', k', h.trans (congrArg (fun m => Value.slice A' m k') hl1)⟩
        clear ho2 hgr h5
        obtain ⟨m0, m1, f0, f1, ml⟩ := HBG.out.cells
        obtain ⟨Y3, hY3⟩ : ∃ Y, W2.setCell ⟨M, 0, none⟩ (.slice A' (n + 1) k') = Y := ⟨_, rfl⟩
        rw [hY3] at HTG
        go_wp2_with fail
        try rw [hY3]
        have HLY := hide HTG.out.cb.cur.leftM_
        clear hY3
        go_roundw
        case rel => exact ⟨A', n + 1, k', l ++ [q.1], q.2, _, _, hl1, HTG.out, HGO.out, by have := HLL.out; have := HDEC.out; omega, HNX.out⟩
        case measure => rw [HLY.out, HLE.out]; exact HDEC.out
      · have hnb : ((n : Int) == 200) = false := by simp; omega
        have HT6 := hide (show DAt w V4 Z M c D S0 St (fun _ => False) (.slice A n k) (.slice none 0 0) l [] s1 from by have h := HT4.out; rw [← HS1Q.out, decide_eq_true (by omega)]; exact h)
        clear hn2
        refine hide ?_
        go_wp2_with fail
        clear m0 m1 f0 f1 ml HT4
        obtain ⟨V6, hV6⟩ : ∃ V, V4 = V := ⟨_, rfl⟩
        rw [hV6] at HT6 ⊢
        obtain ⟨m0, m1, f0, f1, ml⟩ := HT6.out.cb.cells
        have hcM : M ≠ c := by have := HT6.out.cb.o2; omega
        obtain ⟨E, hE⟩ : ∃ E, V6.heap.size = E := ⟨_, rfl⟩
        have HEQ := hide hE
        refine wp_region_cur c [3] [3, 4] 5 (by kernel_rfl) rfl (by kernel_rfl) (by kernel_rfl) ?_
        simp only [List.take_succ_cons, List.take_zero, List.drop_succ_cons, List.drop_zero]
        repeat (refine flowG_known (by kernel_rfl) (fun K hK => ?_); go_simp; (first | (refine hK _ ?_; clear hK K) | (apply Exists.intro; refine ⟨fun w' => ?_, hK _ ?_⟩; (fail); clear hK K)))
        refine flowG_knownF (by kernel_rfl) (fun K hK => ⟨.slice A n k, fun W' hW' => ?_, hK _ ?_⟩)
        · have x0 : W'.cell? ⟨M, 0, none⟩ = some (.slice A n k) := (World.cell?_of_block (hW'.block M ml hcM)).trans m0
          have x1 : M < W'.heap.size := Nat.lt_of_lt_of_le ml hW'.size
          go_simp
        clear hK K
        repeat (refine flowG_known (by kernel_rfl) (fun K hK => ?_); go_simp; (first | (refine hK _ ?_; clear hK K) | (apply Exists.intro; refine ⟨fun w' => ?_, hK _ ?_⟩; (fail); clear hK K)))
        refine flowG_keep [] (DTileI S0 c E q) (by kernel_rfl) (DTileI.stable_ rfl) (by kernel_rfl) (fun u hF => ?_) ?_
        · try simp only [List.nil_append, List.cons_append, useH_f, useH_t, useH_nil]
          go_simp
          refine (HTL.out _ (HT6.out.cb.cur.ext u)).mono ?_
          rintro e w' ⟨A1, n1, k1, rfl, ho1, hat, hon⟩
          exact ⟨_, rfl, ⟨A1, n1, k1, rfl, ho1.lower28 (by rw [size_ext]; have := HEQ.out; omega), hat⟩, hF.trans hon, fun h => by cases h⟩
        refine flowG_keepF [true] (DTileL S0 c E q) (by kernel_rfl) (DTileL.stable_ rfl) (fun W' hW' => ?_) ?_
        · try simp only [List.nil_append, List.cons_append, useH_f, useH_t, useH_nil]
          rintro _ ⟨A1, n1, k1, rfl, ho1, hat⟩
          go_simp
          exact ⟨⟨_, A1, n1, k1, rfl, (by have := HEQ.out; have := hW'.size; omega), heap_alloc_new W' _, ho1.alloc _, hat.alloc _⟩, hW'.alloc _, fun _ => ext_alloc W' _⟩
        refine flowG_done [true, true] (by kernel_rfl) (fun W' hW' => ?_)
        simp only [List.nil_append, List.cons_append, endH_f, endH_t, endH_nil]
        rintro _ - _ ⟨g, A1, n1, k1, rfl, hg, hrow, ho1, hat⟩
        go_simp
        have HT7 := hide (HT6.out.call hW' hat)
        have HRW := hide hrow; have HO1 := hide ho1; have HGB := hide hg
        have HSW := hide hW'.size
        clear m0 m1 f0 f1 ml hcM hat hrow ho1 hg hE
        obtain ⟨St', hSt'⟩ : ∃ St' : Nat → Prop, St' = fun b => St b ∨ (E ≤ b ∧ b < W'.heap.size) := ⟨_, rfl⟩
        have HST := hide hSt'
        clear hSt'
        refine wpList_push_at (α := TileR) W' rfl (.tmp 26) (.tmp 29) 23 rfl (M + 1) 35 i0 _ 40 Tryz.underlying23 HI0.out HZ.out HZ1.out HZ2.out rfl (by decide) St St' (.slice A n k) l [q.1] rfl HT7.out.ot ⟨g, 0, none⟩ 1 1 [.int .i64 q.1.kind, .int .i64 q.1.parent, .slice A1 n1 k1] rfl rfl
          (RepL.single ⟨A1, n1, k1, rfl, HQI.out.1, HQI.out.2, HO1.out.sl (fun b hb h => by rw [HST.out]; rcases h with h | h; exact h.elim; exact .inr ⟨h, hb⟩), HO1.out.room (fun b hb h => by rw [HST.out]; exact .inr ⟨hb, h⟩)⟩)
          (fun j u hj => lit_news (us := [.int .i64 q.1.kind, .int .i64 q.1.parent, .slice A1 n1 k1]) HRW.out j u hj)
          (fun b _ h => by rw [HST.out]; exact .inl h)
          (fun x hx h => by
            rw [HST.out] at h
            rcases h with h | h
            · obtain ⟨_, _, _, h3⟩ := HT7.out.ot
              exact h3 x hx h
            · have := (HT6.out.ot.below_ x hx).2; have := HEQ.out; omega)
          (fun b h => by
            rw [HST.out] at h
            rcases h with h | h
            · have := (HT7.out.st b h).2; have := HT7.out.d; omega
            · exact h.2)
          (by have h1 : List.length (α := TileR) l = n := HN.out; have := HLL.out; unfold maxLen; omega) (by have h1 : List.length (α := TileR) l = n := HN.out; have := HLL.out; omega) (by have := HT7.out.cb.ml; omega) ?_
        intro v' W2 ho2 hgr h5
        have HBG := hide (HT7.out.cb.grown hgr (fun x e => (HT7.out.ot.below_ x e).1))
        have HTG := hide (HT7.out.push0 hgr ho2 (fun b h => by
          rw [HST.out] at h
          have := hgr.size
          rcases h with h | h
          · have h1 := HT7.out.st b h; have := HT7.out.d; omega
          · have := HT6.out.cb.ml; have := HEQ.out; omega))
        have hl1 : List.length (α := TileR) (l ++ [q.1]) = n + 1 := by have h1 : List.length (α := TileR) l = n := HN.out; rw [← h1]; exact List.length_append
        obtain ⟨A', k', rfl⟩ : ∃ A' k', v' = .slice A' (n + 1) k' := by
          obtain ⟨A', k', h⟩ := ho2.form
          exact ⟨A', k', h.trans (congrArg (fun m => Value.slice A' m k') hl1)⟩
        clear ho2 hgr h5
        obtain ⟨m0, m1, f0, f1, ml⟩ := HBG.out.cells
        obtain ⟨Y3, hY3⟩ : ∃ Y, W2.setCell ⟨M, 0, none⟩ (.slice A' (n + 1) k') = Y := ⟨_, rfl⟩
        rw [hY3] at HTG
        go_wp2_with fail
        try rw [hY3]
        have HLY := hide HTG.out.cb.cur.leftM_
        clear hY3
        go_roundw
        case rel => exact ⟨A', n + 1, k', l ++ [q.1], q.2, _, _, hl1, HTG.out, HGO.out, by have := HLL.out; have := HDEC.out; omega, HNX.out⟩
        case measure => rw [HLY.out, HLE.out]; exact HDEC.out
end Go.Proofs.YtppkanniefignaaGreatDoor
