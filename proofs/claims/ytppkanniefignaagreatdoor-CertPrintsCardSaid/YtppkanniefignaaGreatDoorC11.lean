/- law28: walks: cert.Parse. -/
import Derived.Test.YtppkanniefignaaGreatDoorG19
set_option linter.unusedSimpArgs false
set_option linter.unusedVariables false
namespace Go.Proofs.YtppkanniefignaaGreatDoor
open Go.RowKit Go.Maps
/-- A certificate of the call's own: its tiles' rows lie ahead of its facts' rows. -/
structure CertO (w w' : World) (A : Option Addr) (n k : Nat) (B : Option Addr) (m j D : Nat) (St Sf : Nat → Prop) (c : Cert) : Prop where
  ot : OwnL (α := TileR) w' w.heap.size 35 St (.slice A n k) c.tiles
  of : OwnL (α := RowR Fact) w' w.heap.size 37 Sf (.slice B m j) c.facts
  st : ∀ b, St b → w.heap.size ≤ b ∧ b < D
  sf : ∀ b, Sf b → w.heap.size ≤ b ∧ D ≤ b ∧ b < w'.heap.size
  tb : ∀ b, (Value.slice A n k).ownBlock = some b → b < D
  fb : ∀ b, (Value.slice B m j).ownBlock = some b → D ≤ b
  d : D ≤ w'.heap.size
/-- What a text tells, apart from all that was. -/
def CertP (r : Cert × Int × Int × Int) (w : World) (e : Ending) (w' : World) : Prop :=
  ∃ A n k B m j D St Sf, e = .returned (.tuple #[.agg #[.slice A n k, .slice B m j], .int .i64 r.2.1, .int .i64 r.2.2.1, .int .i64 r.2.2.2]) ∧ CertO w w' A n k B m j D St Sf r.1 ∧ Below w.heap.size w w'
theorem CertO.none_ (w w' : World) (h : w.heap.size ≤ w'.heap.size) : CertO w w' none 0 0 none 0 0 w'.heap.size (fun _ => False) (fun _ => False) ⟨[], []⟩ :=
  ⟨OwnL.nil_ _ _ _ _, OwnL.nil_ _ _ _ _, fun _ h => h.elim, fun _ h => h.elim, fun _ h => by simp [Value.ownBlock] at h, fun _ h => by simp [Value.ownBlock] at h, Nat.le_refl _⟩
theorem info_Tile28 : (Tryz.prog.info? 35).map (fun i => (i.zero, i.size, i.bytes)) = some (some (.agg #[.int .i64 0, .int .i64 0, .slice none 0 0]), 3, 40) := by kernel_rfl
theorem info_Facts28 : (Tryz.prog.info? 37).map (fun i => (i.zero, i.size, i.bytes)) = some (some (.slice none 0 0), 1, 24) := by kernel_rfl
/-- A tile that has been read since block B, and the cursor behind it. -/
def TileI (S : Nat → Prop) (c B : Nat) (q : Tile × Cur) : Post := fun v w => ∃ A n k, v = .agg #[.int .i64 q.1.kind, .int .i64 q.1.parent, .slice A n k] ∧ OwnL w B 3 (fun _ => False) (.slice A n k) q.1.blocks ∧ CurAt w S c q.2
theorem TileI.stable_ {F : World → Prop} {S : Nat → Prop} {c B : Nat} {q : Tile × Cur} {mem : Bool} (hm : mem = true) : stable F mem (TileI S c B q) :=
  stable_mem hm fun _ w u ⟨A, n, k, hv, h1, h2⟩ => ⟨A, n, k, hv, h1.ext u, h2.ext u⟩
/-- Facts that have been read since block B, and the cursor behind them. -/
def FactsI (S : Nat → Prop) (c B : Nat) (q : List Fact × Cur) : Post := fun v w => ∃ A n k, v = .slice A n k ∧ OwnL w B 42 (fun _ => False) (.slice A n k) q.1 ∧ CurAt w S c q.2
theorem FactsI.stable_ {F : World → Prop} {S : Nat → Prop} {c B : Nat} {q : List Fact × Cur} {mem : Bool} (hm : mem = true) : stable F mem (FactsI S c B q) :=
  stable_mem hm fun _ w u ⟨A, n, k, hv, h1, h2⟩ => ⟨A, n, k, hv, h1.ext u, h2.ext u⟩
/-- A literal of one tile that has been read since block B. -/
def TileL (S : Nat → Prop) (c B : Nat) (q : Tile × Cur) : Post := fun v w => ∃ g A n k, v = .slice (some ⟨g, 0, none⟩) 1 1 ∧ B ≤ g ∧ w.heap[g]? = some (.cells #[.int .i64 q.1.kind, .int .i64 q.1.parent, .slice A n k] 35 (0, 0)) ∧ OwnL w B 3 (fun _ => False) (.slice A n k) q.1.blocks ∧ CurAt w S c q.2
theorem TileL.stable_ {F : World → Prop} {S : Nat → Prop} {c B : Nat} {q : Tile × Cur} {mem : Bool} (hm : mem = true) : stable F mem (TileL S c B q) :=
  stable_mem hm fun _ w u ⟨g, A, n, k, hv, hg, h0, h1, h2⟩ => ⟨g, A, n, k, hv, hg, (by rw [ext_block w u g (Array.getElem?_eq_some_iff.1 h0).1]; exact h0), h1.ext u, h2.ext u⟩
/-- A literal of one edge's facts that have been read since block B. -/
def FactsB (S : Nat → Prop) (c B : Nat) (q : List Fact × Cur) : Post := fun v w => ∃ g A n k, v = .slice (some ⟨g, 0, none⟩) 1 1 ∧ B ≤ g ∧ w.heap[g]? = some (.cells #[.slice A n k] 37 (0, 0)) ∧ OwnL w B 42 (fun _ => False) (.slice A n k) q.1 ∧ CurAt w S c q.2
theorem FactsB.stable_ {F : World → Prop} {S : Nat → Prop} {c B : Nat} {q : List Fact × Cur} {mem : Bool} (hm : mem = true) : stable F mem (FactsB S c B q) :=
  stable_mem hm fun _ w u ⟨g, A, n, k, hv, hg, h0, h1, h2⟩ => ⟨g, A, n, k, hv, hg, (by rw [ext_block w u g (Array.getElem?_eq_some_iff.1 h0).1]; exact h0), h1.ext u, h2.ext u⟩
set_option maxRecDepth 100000 in
set_option maxHeartbeats 32000000 in
theorem parse28_any (s : ByteArray) (w : World) (hv : VarsP w) : Calls Tryz.prog 8 #[.string s] w (CertP (parse28 s) w) := by
  by_cases hbig : 262144 < s.size
  · have hg : parse28 s = (⟨[], []⟩, 0, 0, 3) := by unfold parse28; rw [if_pos hbig]
    rw [hg]
    refine (parse28_long s w hbig).mono ?_
    rintro e w' ⟨rfl, hb⟩
    exact ⟨none, 0, 0, none, 0, 0, _, _, _, rfl, CertO.none_ _ _ hb.size, hb⟩
  obtain ⟨i0, hi, hz, hz1, hz2⟩ := info_parts info_Tile28
  have HI0 := hide hi; have HZ := hide hz; have HZ1 := hide hz1; have HZ2 := hide hz2
  clear hi hz hz1 hz2
  obtain ⟨i1, hi, hz, hz1, hz2⟩ := info_parts info_Facts28
  have HI1 := hide hi; have HY := hide hz; have HY1 := hide hz1; have HY2 := hide hz2
  clear hi hz hz1 hz2
  have hs : s.size ≤ 262144 := by omega
  have hl := overT_len28 s hs
  obtain ⟨C, hC⟩ : ∃ C, w.heap.size = C := ⟨_, rfl⟩
  obtain ⟨W0, hW0⟩ : ∃ W0, w.alloc (.cells #[.slice none 0 0, .slice none 0 0] 26) = W0 := ⟨_, rfl⟩
  have HV0 := hide (show VarsP W0 from by rw [← hW0]; exact hv.below ((Below.refl w.heap.size w).alloc (Nat.le_refl _) _) hv.v.sz)
  have HOV := hide (show Calls Tryz.prog 28 #[.string s] W0 (OverP s W0) from cOver1 s W0 (by omega) HV0.out.v)
  obtain ⟨X, hX⟩ : ∃ X, tilesC ([], overT s) = X := ⟨_, rfl⟩
  obtain ⟨Y, hY⟩ : ∃ Y, edgesC ([], X.2) = Y := ⟨_, rfl⟩
  have hp : parse28 s = if (errC Y.2).2.2 ≠ 0 then (⟨[], []⟩, errC Y.2) else (⟨X.1, Y.1⟩, 0, 0, 0) := by
    unfold parse28 certC
    rw [if_neg hbig]
    simp only
    rw [hX, hY]
  obtain ⟨Z, hZ⟩ : ∃ Z, parse28 s = Z := ⟨_, rfl⟩
  rw [hZ] at hp ⊢
  have HPZ := hide hp
  clear hZ
  have HXQ := hide hX; have HYQ := hide hY; have HLQ := hide hl
  clear hp hX hY hl hv
  go_enter Tryz.func8, Tryz.ntmps8
  go_wp2_with (first
    | (go_at_call 28; (with_reducible refine HOV.out.mono ?_); rintro e V1 ⟨rfl, hat, hb1⟩; have HV1 := hide (HV0.out.below hb1 (by have := HV0.out.v.sz; omega)); have HAT := hide hat; have HB1 := hide hb1; clear hat hb1)
    | (go_at_call 29; (with_reducible refine (names28_any _ HV1.out).mono ?_); rintro e V2 ⟨nb, rfl, hnm, hnb, hb2⟩; have HNM := hide hnm; have HNB := hide hnb; have HB2 := hide hb2; clear hnm hnb hb2))
  obtain ⟨c, hc⟩ : ∃ c, W0.heap.size = c := ⟨_, rfl⟩
  obtain ⟨R, hR⟩ : ∃ R, V2.heap.size = R := ⟨_, rfl⟩
  obtain ⟨W3, hW3⟩ : ∃ W3, V2.alloc (.cells #[.pointer (some ⟨c, 0, none⟩), .map (some nb)] 62) = W3 := ⟨_, rfl⟩
  obtain ⟨S0, hS0⟩ : ∃ S0 : Nat → Prop, S0 = fun b => c < b ∧ b < V1.heap.size := ⟨_, rfl⟩
  have hz0 : C + 1 = c := by rw [← hc, ← hW0, ← hC]; simp
  have hz1 : c < V1.heap.size := by rw [← hc]; exact HAT.out.lt
  have hz2 : V1.heap.size ≤ V2.heap.size := HB2.out.size
  have HC := hide (show CAt w W3 C R c nb W3.heap.size S0 (fun _ => False) (fun _ => False) (.slice none 0 0) (.slice none 0 0) [] [] (overT s) from by
    have hnl := HNM.out.lt
    have hnb := HNB.out
    have hb1 := HB1.out; have hb2 := HB2.out; have hat := HAT.out
    rw [hc] at hb1 hat
    rw [← hS0] at hat
    refine ⟨⟨?_, ?_, ?_, ?_, ?_, by omega, by omega, by omega, fun b h => by rw [hS0] at h; omega⟩, OwnL.nil_ _ _ _ _, OwnL.nil_ _ _ _ _, fun _ h => h.elim, fun _ h => h.elim, fun _ h => by simp [Value.ownBlock] at h, fun _ h => by simp [Value.ownBlock] at h, Nat.le_refl _⟩
    · rw [← hW3, Below.heap_alloc _ _ _ (by omega), hb2.block C (by omega), hb1.block C (by omega), ← hW0, ← hC]; exact heap_alloc_new w _
    · rw [← hW3, ← hR]; exact heap_alloc_new V2 _
    · rw [← hW3]; exact (hat.below hb2).alloc _
    · have hb0 : Below C w W0 := by rw [← hW0, ← hC]; exact (Below.refl _ _).alloc (Nat.le_refl _) _
      rw [← hW3]
      exact (hb0.trans ((hb1.mono (by omega)).trans (hb2.mono (by omega)))).alloc (by omega) _
    · rw [← hW3]; exact HNM.out.alloc _)
  have HCQ := hide hC
  try rw [hC]
  try rw [hc]
  try rw [hR]
  try rw [hW3]
  clear hz0 hz1 hz2 hC hc hR hW3 hS0 HNM HNB HB1 HB2 HAT HV0 HV1 HOV hW0
  go_loopw [] (fun wr => ∃ (A : Option Addr) (n k : Nat) (l : List Tile) (s' : Cur) (D : Nat) (St : Nat → Prop), l.length = n ∧ CAt w wr C R c nb D S0 St (fun _ => False) (.slice A n k) (.slice none 0 0) l [] s' ∧ tilesC (l, s') = X ∧ n + leftC s' ≤ 1099511627770) (fun wr => leftM c wr)
  case atStart => exact ⟨none, 0, 0, [], overT s, _, _, rfl, HC.out, HXQ.out, by have := HLQ.out; simpa using this⟩
  case round =>
    obtain ⟨A, n, k, l, s', D, St, hn, ht, hx, hll⟩ := hrel
    have HT := hide ht; have HXX := hide hx; have HN := hide hn; have HLL := hide hll
    have HLE := hide ht.cb.cur.leftM_
    clear ht hx hn hll HC
    obtain ⟨c0, c1, r0, r1⟩ := HT.out.cb.cells
    have rl := HT.out.cb.rl
    have cl := HT.out.cb.cl
    cases hk : isC (.nm tTile) s' with
    | false =>
      have HK := hide (show Calls Tryz.prog 30 #[.pointer (some ⟨c, 0, none⟩), .string ⟨#[116, 105, 108, 101]⟩] wr (CurP S0 c wr s' (.bool false)) from by have h := cKey HT.out.cb.cur tTile; rw [hk] at h; exact h)
      have HX1 := hide (show X = (l, s') from by rw [← HXX.out]; exact tilesC_stop (by unfold tilesG; rw [if_neg (by simp only; rw [hk]; decide)]))
      clear hk
      go_wp2_with (first | (go_at_call 30; (with_reducible refine HK.out.mono ?_); rintro e V4 ⟨rfl, hat, hon⟩; have HT4 := hide (HT.out.call hon hat); clear hat hon))
      clear c0 c1 r0 r1 rl cl HK HT HLE HXX
      have HN0 := HN
      go_loopw [] (fun wr => ∃ (B : Option Addr) (m j : Nat) (lf : List (List Fact)) (s2 : Cur) (Sf : Nat → Prop), lf.length = m ∧ CAt w wr C R c nb D S0 St Sf (.slice A n k) (.slice B m j) l lf s2 ∧ edgesC (lf, s2) = Y ∧ m + leftC s2 ≤ 1099511627770) (fun wr => leftM c wr)
      case atStart => exact ⟨none, 0, 0, [], s', _, rfl, HT4.out, by rw [← HYQ.out, HX1.out], by have := HLL.out; omega⟩
      case round =>
        obtain ⟨B, m, j, lf, s2, Sf, hn, ht, hx, hll⟩ := hrel
        have HT := hide ht; have HXX := hide hx; have HM := hide hn; have HLM := hide hll
        have HLE := hide ht.cb.cur.leftM_
        clear ht hx hn hll HT4 HLL
        obtain ⟨c0, c1, r0, r1⟩ := HT.out.cb.cells
        have rl := HT.out.cb.rl
        have cl := HT.out.cb.cl
        cases hk : isC (.nm tEdge) s2 with
        | false =>
          have HK := hide (show Calls Tryz.prog 30 #[.pointer (some ⟨c, 0, none⟩), .string ⟨#[101, 100, 103, 101]⟩] wr (CurP S0 c wr s2 (.bool false)) from by have h := cKey HT.out.cb.cur tEdge; rw [hk] at h; exact h)
          have HY1 := hide (show Y = (lf, s2) from by rw [← HXX.out]; exact edgesC_stop (by unfold edgesG; rw [if_neg (by simp only; rw [hk]; decide)]))
          clear hk
          go_wp2_with (first | (go_at_call 30; (with_reducible refine HK.out.mono ?_); rintro e V5 ⟨rfl, hat, hon⟩; have HT5 := hide (HT.out.call hon hat); clear hat hon; refine Hd.out ?_))
          clear c0 c1 r0 r1 rl cl HK HT HLE HXX
          obtain ⟨⟨el, ec, ee⟩, he9⟩ : ∃ x, errC s2 = x := ⟨_, rfl⟩
          have HER := hide (show Calls Tryz.prog 34 #[.pointer (some ⟨c, 0, none⟩)] V5 (RetX (.tuple #[.int .i64 el, .int .i64 ec, .int .i64 ee]) V5) from by have h := cErr HT5.out.cb.cur; unfold errV at h; rw [he9] at h; exact h)
          have HZZ := hide (show Z = if ee ≠ 0 then (⟨[], []⟩, el, ec, ee) else (⟨l, lf⟩, 0, 0, 0) from by rw [HPZ.out, HY1.out, HX1.out]; simp only; rw [he9])
          clear he9
          obtain ⟨c0, c1, r0, r1⟩ := HT5.out.cb.cells
          have rl := HT5.out.cb.rl
          have cl := HT5.out.cb.cl
          by_cases hee : ee = 0
          · have heb : (ee != 0) = false := by simp [hee]
            have HZE := hide (show Z = (⟨l, lf⟩, 0, 0, 0) from by rw [HZZ.out, if_neg (by simpa using hee)])
            clear hee
            refine hide ?_
            go_wp2_with (first | (go_at_call 34; (with_reducible refine HER.out.mono ?_); rintro e V9 ⟨rfl, u9, hu⟩; have HT9 := hide (hu ▸ HT5.out.ext u9); clear hu; refine Hd.out ?_))
            clear c0 c1 r0 r1 rl cl HER HT5
            obtain ⟨c0, c1, r0, r1⟩ := HT9.out.cb.cells
            have cl := HT9.out.cb.cl
            have f0 := HT9.out.cb.fz 0
            have f1 := HT9.out.cb.fz 1
            refine hide ?_
            go_wp2_with fail
            obtain ⟨Zw, hZw⟩ : ∃ Zw, (V9.setCell ⟨C, 0, none⟩ (.slice A n k)).setCell ⟨C, 1, none⟩ (.slice B m j) = Zw := ⟨_, rfl⟩
            have HTZ := hide (show CAt w Zw C R c nb D S0 St Sf (.slice A n k) (.slice B m j) l lf s2 from by
              rw [← hZw]
              exact (HT9.out.again (j := 0) (x := .slice A n k) rfl).again (j := 1) (x := .slice B m j) rfl)
            try rw [hZw]
            refine bodyPost_ret (results_cert Tryz.results8 _ _ rfl HTZ.out.cb.row) rfl ?_
            rw [HZE.out]
            have hC := HCQ.out
            exact ⟨A, n, k, B, m, j, D, St, Sf, rfl, ⟨HTZ.out.ot.lower28 (by have := HTZ.out.cb.o1; have := HTZ.out.cb.o2; have := HTZ.out.cb.o3; omega), HTZ.out.of.lower28 (by have := HTZ.out.cb.o1; have := HTZ.out.cb.o2; have := HTZ.out.cb.o3; omega), fun b h => by have := HTZ.out.st b h; have := HTZ.out.cb.o1; have := HTZ.out.cb.o2; have := HTZ.out.cb.o3; omega, fun b h => by have := HTZ.out.sf b h; have := HTZ.out.cb.o1; have := HTZ.out.cb.o2; have := HTZ.out.cb.o3; omega, HTZ.out.tb, HTZ.out.fb, HTZ.out.d⟩, hC ▸ HTZ.out.cb.low⟩
          · have heb : (ee != 0) = true := by simpa using hee
            have HZE := hide (show Z = (⟨[], []⟩, el, ec, ee) from by rw [HZZ.out, if_pos hee])
            clear hee
            refine hide ?_
            go_wp2_with (first | (go_at_call 34; (with_reducible refine HER.out.mono ?_); rintro e V9 ⟨rfl, u9, hu⟩; have HT9 := hide (hu ▸ HT5.out.ext u9); clear hu; refine Hd.out ?_))
            clear c0 c1 r0 r1 rl cl HER HT5
            obtain ⟨c0, c1, r0, r1⟩ := HT9.out.cb.cells
            have cl := HT9.out.cb.cl
            have f0 := HT9.out.cb.fz 0
            have f1 := HT9.out.cb.fz 1
            refine hide ?_
            go_wp2_with fail
            obtain ⟨Zw, hZw⟩ : ∃ Zw, (V9.setCell ⟨C, 0, none⟩ (.slice none 0 0)).setCell ⟨C, 1, none⟩ (.slice none 0 0) = Zw := ⟨_, rfl⟩
            have HTZ := hide (show CB w Zw C R c nb S0 (.slice none 0 0) (.slice none 0 0) s2 from by
              rw [← hZw]
              exact (HT9.out.cb.set (j := 0) (x := .slice none 0 0) rfl).set (j := 1) (x := .slice none 0 0) rfl)
            try rw [hZw]
            refine bodyPost_ret (results_cert Tryz.results8 _ _ rfl HTZ.out.row) rfl ?_
            rw [HZE.out]
            have hC := HCQ.out
            exact ⟨none, 0, 0, none, 0, 0, _, _, _, rfl, CertO.none_ _ _ (by have := HTZ.out.cl; omega), hC ▸ HTZ.out.low⟩
        | true =>
          obtain ⟨b1, hb1⟩ : ∃ b, decide ((m : Int) < 400) = b := ⟨_, rfl⟩
          have hb2 : decide (lf.length < 400) = b1 := by rw [← hb1, HM.out, Bool.eq_iff_iff]; simp; omega
          obtain ⟨s1, hs1⟩ : ∃ s1, unlessC b1 3 (popC s2) = s1 := ⟨_, rfl⟩
          obtain ⟨q, hq⟩ : ∃ q, factsC s1 = q := ⟨_, rfl⟩
          have hgo : edgesG (lf, s2) = some (lf ++ [q.1], q.2) := by
            unfold edgesG
            rw [if_pos hk]
            simp only
            rw [hb2, hs1, hq]
          have HGO := hide (show edgesC (lf ++ [q.1], q.2) = Y from by rw [← HXX.out, edgesC_go hgo])
          have HDEC := hide (show leftC q.2 < leftC s2 from edgesG_dec _ _ hgo)
          have hls : leftC s1 ≤ 1099511627770 := by
            have h1 := left_unless (x := 3) (by decide) b1 (popC s2)
            rw [hs1, left_pop] at h1
            have := HLM.out
            omega
          have HFL := hide (fun (W : World) (h : CurAt W S0 c s1) (hnm : Names W nb) => show Calls Tryz.prog 33 #[rdV c nb] W (FactsP S0 c q W) from hq ▸ facts28_any W S0 c nb s1 h hnm (by have := HT.out.cb.o2; omega) (by omega))
          have HK := hide (show Calls Tryz.prog 30 #[.pointer (some ⟨c, 0, none⟩), .string ⟨#[101, 100, 103, 101]⟩] wr (CurP S0 c wr (popC s2) (.bool true)) from by have h := cKey HT.out.cb.cur tEdge; rw [hk] at h; exact h)
          have HS1Q := hide hs1
          clear hgo hk hb2 hs1 hq hls
          go_wp2_with (first | (go_at_call 30; (with_reducible refine HK.out.mono ?_); rintro e V4 ⟨rfl, hat, hon⟩; have HT4 := hide (HT.out.call hon hat); clear hat hon; refine Hd.out ?_))
          clear c0 c1 r0 r1 rl cl HK HT
          obtain ⟨c0, c1, r0, r1⟩ := HT4.out.cb.cells
          have rl := HT4.out.cb.rl
          have cl := HT4.out.cb.cl
          have HU := hide (show Calls Tryz.prog 31 #[rdV c nb, .bool b1, .int .i64 3] V4 (CurP S0 c V4 s1 (.tuple #[])) from HS1Q.out ▸ unless28_any HT4.out.cb.cur nb b1 3)
          refine hide ?_
          go_wp2_with (first | (go_at_call 31; (with_reducible refine HU.out.mono ?_); rintro e V6 ⟨rfl, hat, hon⟩; have HT6 := hide (HT4.out.call hon hat); clear hat hon; refine Hd.out ?_))
          clear c0 c1 r0 r1 rl cl HU HT4
          obtain ⟨c0, c1, r0, r1⟩ := HT6.out.cb.cells
          have rl := HT6.out.cb.rl
          have cl := HT6.out.cb.cl
          have hcC : C ≠ c := by have := HT6.out.cb.o1; omega
          have hcR : R ≠ c := by have := HT6.out.cb.o2; have := HT6.out.cb.o3; omega
          have hcN : nb ≠ c := by have := HT6.out.cb.o2; omega
          have hnl : nb < V6.heap.size := by have := HT6.out.cb.o3; omega
          refine hide ?_
          go_wp2_with fail
          obtain ⟨E, hE⟩ : ∃ E, V6.heap.size = E := ⟨_, rfl⟩
          have HEQ := hide hE
          refine wp_region_cur c [3] [3, 4] 5 (by kernel_rfl) rfl (by kernel_rfl) (by kernel_rfl) ?_
          simp only [List.take_succ_cons, List.take_zero, List.drop_succ_cons, List.drop_zero]
          repeat (refine flowG_known (by kernel_rfl) (fun K hK => ?_); go_simp; (first | (refine hK _ ?_; clear hK K) | (apply Exists.intro; refine ⟨fun w' => ?_, hK _ ?_⟩; (fail); clear hK K)))
          refine flowG_knownF (by kernel_rfl) (fun K hK => ⟨.slice B m j, fun W' hW' => ?_, hK _ ?_⟩)
          · have x0 : W'.cell? ⟨C, 1, none⟩ = some (.slice B m j) := (World.cell?_of_block (hW'.block C cl hcC)).trans c1
            have x1 : C < W'.heap.size := Nat.lt_of_lt_of_le cl hW'.size
            go_simp
          clear hK K
          refine flowG_knownF (by kernel_rfl) (fun K hK => ⟨.agg #[.pointer (some ⟨c, 0, none⟩), .map (some nb)], fun W' hW' => ?_, hK _ ?_⟩)
          · have x0 : W'.cell? ⟨R, 0, none⟩ = some (.pointer (some ⟨c, 0, none⟩)) := (World.cell?_of_block (hW'.block R rl hcR)).trans r0
            have x2 : W'.cell? ⟨R, 1, none⟩ = some (.map (some nb)) := (World.cell?_of_block (hW'.block R rl hcR)).trans r1
            have x1 : R < W'.heap.size := Nat.lt_of_lt_of_le rl hW'.size
            go_simp
          clear hK K
          refine flowG_keep [] (FactsI S0 c E q) (by kernel_rfl) (FactsI.stable_ rfl) (by kernel_rfl) (fun u hF => ?_) ?_
          · try simp only [List.nil_append, List.cons_append, useH_f, useH_t, useH_nil]
            go_simp
            refine (HFL.out _ (HT6.out.cb.cur.ext u) (HT6.out.cb.nm.keep (ext_block V6 u nb hnl))).mono ?_
            rintro e w' ⟨A1, n1, k1, rfl, ho1, hat, hon⟩
            exact ⟨_, rfl, ⟨A1, n1, k1, rfl, ho1.lower28 (by rw [size_ext]; have := HEQ.out; omega), hat⟩, hF.trans hon, fun h => by cases h⟩
          refine flowG_keepF [true] (FactsB S0 c E q) (by kernel_rfl) (FactsB.stable_ rfl) (fun W' hW' => ?_) ?_
          · try simp only [List.nil_append, List.cons_append, useH_f, useH_t, useH_nil]
            rintro _ ⟨A1, n1, k1, rfl, ho1, hat⟩
            go_simp
            exact ⟨⟨_, A1, n1, k1, rfl, (by have := HEQ.out; have := hW'.size; omega), heap_alloc_new W' _, ho1.alloc _, hat.alloc _⟩, hW'.alloc _, fun _ => ext_alloc W' _⟩
          refine flowG_done [true, true] (by kernel_rfl) (fun W' hW' => ?_)
          simp only [List.nil_append, List.cons_append, endH_f, endH_t, endH_nil]
          rintro _ - _ ⟨g, A1, n1, k1, rfl, hg, hrow, ho1, hat⟩
          go_simp
          have HT7 := hide (HT6.out.call hW' hat)
          have HRW := hide hrow; have HO1 := hide ho1; have HGB := hide hg
          have HSW := hide hW'.size
          clear c0 c1 r0 r1 rl cl hcC hcR hat hrow ho1 hg hE hcN hnl
          obtain ⟨Sf', hSf'⟩ : ∃ Sf' : Nat → Prop, Sf' = fun b => Sf b ∨ (E ≤ b ∧ b < W'.heap.size) := ⟨_, rfl⟩
          have HST := hide hSf'
          clear hSf'
          refine wpList_push_at (α := RowR Fact) W' rfl (.tmp 41) (.tmp 44) 24 rfl (R + 1) 37 i1 _ 24 Tryz.underlying24 HI1.out HY.out HY1.out HY2.out rfl (by decide) Sf Sf' (.slice B m j) lf [q.1] rfl HT7.out.of ⟨g, 0, none⟩ 1 1 [.slice A1 n1 k1] rfl rfl
            (RepL.single (show Rep.is (α := RowR Fact) W' Sf' q.1 [.slice A1 n1 k1] from ⟨A1, n1, k1, rfl, HO1.out.sl (fun b hb h => by rw [HST.out]; rcases h with h | h; exact h.elim; exact .inr ⟨h, hb⟩), HO1.out.room (fun b hb h => by rw [HST.out]; exact .inr ⟨hb, h⟩)⟩))
            (fun j u hj => lit_news (us := [.slice A1 n1 k1]) HRW.out j u hj)
            (fun b _ h => by rw [HST.out]; exact .inl h)
            (fun x hx h => by
              rw [HST.out] at h
              rcases h with h | h
              · obtain ⟨_, _, _, h3⟩ := HT7.out.of
                exact h3 x hx h
              · have := (HT6.out.of.below_ x hx).2; have := HEQ.out; omega)
            (fun b h => by
              rw [HST.out] at h
              rcases h with h | h
              · exact (HT7.out.sf b h).2.2
              · exact h.2)
            (by have h1 : List.length (α := RowR Fact) lf = m := HM.out; have := HLM.out; unfold maxLen; omega) (by have h1 : List.length (α := RowR Fact) lf = m := HM.out; have := HLM.out; omega) (by have := HT7.out.cb.rl; omega) ?_
          intro v' W2 ho2 hgr h5
          have HBG := hide (HT7.out.cb.grown hgr (fun x e => (HT7.out.of.below_ x e).1))
          have HTG := hide (HT7.out.push1 hgr ho2 (fun b h => by
              rw [HST.out] at h
              have := hgr.size
              rcases h with h | h
              · have h1 := HT7.out.sf b h; omega
              · have := HT6.out.cb.rl; have := HEQ.out; have := HT6.out.d; omega)
            (fun b e => by
              rcases h5 with h5 | h5
              · exact HT7.out.fb b (h5 ▸ e)
              · rw [h5] at e; injection e with e; have := HT7.out.d; omega))
          have hl1 : List.length (α := RowR Fact) (lf ++ [q.1]) = m + 1 := by have h1 : List.length (α := RowR Fact) lf = m := HM.out; rw [← h1]; exact List.length_append
          obtain ⟨A', k', rfl⟩ : ∃ A' k', v' = .slice A' (m + 1) k' := by
            obtain ⟨A', k', h⟩ := ho2.form
            exact ⟨A', k', h.trans (congrArg (fun m => Value.slice A' m k') hl1)⟩
          clear ho2 hgr h5
          obtain ⟨c0, c1, r0, r1⟩ := HBG.out.cells
          have rl := HBG.out.rl
          have cl := HBG.out.cl
          have f0 := HBG.out.fz 1
          obtain ⟨Y3, hY3⟩ : ∃ Y, W2.setCell ⟨C, 1, none⟩ (.slice A' (m + 1) k') = Y := ⟨_, rfl⟩
          rw [hY3] at HTG
          go_wp2_with fail
          try rw [hY3]
          have HLY := hide HTG.out.cb.cur.leftM_
          clear hY3
          go_roundw
          case rel => exact ⟨A', m + 1, k', lf ++ [q.1], q.2, _, hl1, HTG.out, HGO.out, by have := HLM.out; have := HDEC.out; omega⟩
          case measure => rw [HLY.out, HLE.out]; exact HDEC.out
    | true =>
      obtain ⟨b1, hb1⟩ : ∃ b, decide ((n : Int) < 200) = b := ⟨_, rfl⟩
      have hb2 : decide (l.length < 200) = b1 := by rw [← hb1, HN.out, Bool.eq_iff_iff]; simp; omega
      obtain ⟨s1, hs1⟩ : ∃ s1, unlessC b1 3 (popC s') = s1 := ⟨_, rfl⟩
      obtain ⟨q, hq⟩ : ∃ q, tileC s1 = q := ⟨_, rfl⟩
      have hgo : tilesG (l, s') = some (l ++ [q.1], q.2) := by
        unfold tilesG
        rw [if_pos hk]
        simp only
        rw [hb2, hs1, hq]
      have HGO := hide (show tilesC (l ++ [q.1], q.2) = X from by rw [← HXX.out, tilesC_go hgo])
      have HDEC := hide (show leftC q.2 < leftC s' from tilesG_dec _ _ hgo)
      have HQI := hide (show InI q.1.kind ∧ InI q.1.parent from hq ▸ tileC_in s1)
      have hls : leftC s1 ≤ 1099511627770 := by
        have h1 := left_unless (x := 3) (by decide) b1 (popC s')
        rw [hs1, left_pop] at h1
        have := HLL.out
        omega
      have HTL := hide (fun (W : World) (h : CurAt W S0 c s1) => show Calls Tryz.prog 32 #[rdV c nb] W (TileP S0 c q W) from hq ▸ tile28_any W S0 c nb s1 h (by omega))
      have HK := hide (show Calls Tryz.prog 30 #[.pointer (some ⟨c, 0, none⟩), .string ⟨#[116, 105, 108, 101]⟩] wr (CurP S0 c wr (popC s') (.bool true)) from by have h := cKey HT.out.cb.cur tTile; rw [hk] at h; exact h)
      have HS1Q := hide hs1
      clear hgo hk hb2 hs1 hq hls
      go_wp2_with (first | (go_at_call 30; (with_reducible refine HK.out.mono ?_); rintro e V4 ⟨rfl, hat, hon⟩; have HT4 := hide (HT.out.call hon hat); clear hat hon; refine Hd.out ?_))
      clear c0 c1 r0 r1 rl cl HK HT
      obtain ⟨c0, c1, r0, r1⟩ := HT4.out.cb.cells
      have rl := HT4.out.cb.rl
      have cl := HT4.out.cb.cl
      have HU := hide (show Calls Tryz.prog 31 #[rdV c nb, .bool b1, .int .i64 3] V4 (CurP S0 c V4 s1 (.tuple #[])) from HS1Q.out ▸ unless28_any HT4.out.cb.cur nb b1 3)
      refine hide ?_
      go_wp2_with (first | (go_at_call 31; (with_reducible refine HU.out.mono ?_); rintro e V6 ⟨rfl, hat, hon⟩; have HT6 := hide (HT4.out.call hon hat); clear hat hon; refine Hd.out ?_))
      clear c0 c1 r0 r1 rl cl HU HT4
      obtain ⟨c0, c1, r0, r1⟩ := HT6.out.cb.cells
      have rl := HT6.out.cb.rl
      have cl := HT6.out.cb.cl
      have hcC : C ≠ c := by have := HT6.out.cb.o1; omega
      have hcR : R ≠ c := by have := HT6.out.cb.o2; have := HT6.out.cb.o3; omega
      refine hide ?_
      go_wp2_with fail
      obtain ⟨B, hB⟩ : ∃ B, V6.heap.size = B := ⟨_, rfl⟩
      have HBQ := hide hB
      refine wp_region_cur c [3] [3, 4] 5 (by kernel_rfl) rfl (by kernel_rfl) (by kernel_rfl) ?_
      simp only [List.take_succ_cons, List.take_zero, List.drop_succ_cons, List.drop_zero]
      repeat (refine flowG_known (by kernel_rfl) (fun K hK => ?_); go_simp; (first | (refine hK _ ?_; clear hK K) | (apply Exists.intro; refine ⟨fun w' => ?_, hK _ ?_⟩; (fail); clear hK K)))
      refine flowG_knownF (by kernel_rfl) (fun K hK => ⟨.slice A n k, fun W' hW' => ?_, hK _ ?_⟩)
      · have x0 : W'.cell? ⟨C, 0, none⟩ = some (.slice A n k) := (World.cell?_of_block (hW'.block C cl hcC)).trans c0
        have x1 : C < W'.heap.size := Nat.lt_of_lt_of_le cl hW'.size
        go_simp
      clear hK K
      refine flowG_knownF (by kernel_rfl) (fun K hK => ⟨.agg #[.pointer (some ⟨c, 0, none⟩), .map (some nb)], fun W' hW' => ?_, hK _ ?_⟩)
      · have x0 : W'.cell? ⟨R, 0, none⟩ = some (.pointer (some ⟨c, 0, none⟩)) := (World.cell?_of_block (hW'.block R rl hcR)).trans r0
        have x2 : W'.cell? ⟨R, 1, none⟩ = some (.map (some nb)) := (World.cell?_of_block (hW'.block R rl hcR)).trans r1
        have x1 : R < W'.heap.size := Nat.lt_of_lt_of_le rl hW'.size
        go_simp
      clear hK K
      refine flowG_keep [] (TileI S0 c B q) (by kernel_rfl) (TileI.stable_ rfl) (by kernel_rfl) (fun u hF => ?_) ?_
      · try simp only [List.nil_append, List.cons_append, useH_f, useH_t, useH_nil]
        go_simp
        refine (HTL.out _ (HT6.out.cb.cur.ext u)).mono ?_
        rintro e w' ⟨A1, n1, k1, rfl, ho1, hat, hon⟩
        exact ⟨_, rfl, ⟨A1, n1, k1, rfl, ho1.lower28 (by rw [size_ext]; have := HBQ.out; omega), hat⟩, hF.trans hon, fun h => by cases h⟩
      refine flowG_keepF [true] (TileL S0 c B q) (by kernel_rfl) (TileL.stable_ rfl) (fun W' hW' => ?_) ?_
      · try simp only [List.nil_append, List.cons_append, useH_f, useH_t, useH_nil]
        rintro _ ⟨A1, n1, k1, rfl, ho1, hat⟩
        go_simp
        exact ⟨⟨_, A1, n1, k1, rfl, (by have := HBQ.out; have := hW'.size; omega), heap_alloc_new W' _, ho1.alloc _, hat.alloc _⟩, hW'.alloc _, fun _ => ext_alloc W' _⟩
      refine flowG_done [true, true] (by kernel_rfl) (fun W' hW' => ?_)
      simp only [List.nil_append, List.cons_append, endH_f, endH_t, endH_nil]
      rintro _ - _ ⟨g, A1, n1, k1, rfl, hg, hrow, ho1, hat⟩
      go_simp
      have HT7 := hide (HT6.out.call hW' hat)
      have HRW := hide hrow; have HO1 := hide ho1; have HGB := hide hg
      have HSW := hide hW'.size
      clear c0 c1 r0 r1 rl cl hcC hcR hat hrow ho1 hg hB
      obtain ⟨St', hSt'⟩ : ∃ St' : Nat → Prop, St' = fun b => St b ∨ (B ≤ b ∧ b < W'.heap.size) := ⟨_, rfl⟩
      have HST := hide hSt'
      clear hSt'
      refine wpList_push_at (α := TileR) W' rfl (.tmp 25) (.tmp 28) 23 rfl (R + 1) 35 i0 _ 40 Tryz.underlying23 HI0.out HZ.out HZ1.out HZ2.out rfl (by decide) St St' (.slice A n k) l [q.1] rfl HT7.out.ot ⟨g, 0, none⟩ 1 1 [.int .i64 q.1.kind, .int .i64 q.1.parent, .slice A1 n1 k1] rfl rfl
        (RepL.single ⟨A1, n1, k1, rfl, HQI.out.1, HQI.out.2, HO1.out.sl (fun b hb h => by rw [HST.out]; rcases h with h | h; exact h.elim; exact .inr ⟨h, hb⟩), HO1.out.room (fun b hb h => by rw [HST.out]; exact .inr ⟨hb, h⟩)⟩)
        (fun j u hj => lit_news (us := [.int .i64 q.1.kind, .int .i64 q.1.parent, .slice A1 n1 k1]) HRW.out j u hj)
        (fun b _ h => by rw [HST.out]; exact .inl h)
        (fun x hx h => by
          rw [HST.out] at h
          rcases h with h | h
          · obtain ⟨_, _, _, h3⟩ := HT7.out.ot
            exact h3 x hx h
          · have := (HT6.out.ot.below_ x hx).2; have := HBQ.out; omega)
        (fun b h => by
          rw [HST.out] at h
          rcases h with h | h
          · have := (HT7.out.st b h).2; have := HT7.out.d; omega
          · exact h.2)
        (by have h1 : List.length (α := TileR) l = n := HN.out; have := HLL.out; unfold maxLen; omega) (by have h1 : List.length (α := TileR) l = n := HN.out; have := HLL.out; omega) (by have := HT7.out.cb.rl; omega) ?_
      intro v' W2 ho2 hgr h5
      have HBG := hide (HT7.out.cb.grown hgr (fun x e => (HT7.out.ot.below_ x e).1))
      have HTG := hide (HT7.out.push0 hgr ho2 (fun b h => by
        rw [HST.out] at h
        have := hgr.size
        rcases h with h | h
        · have h1 := HT7.out.st b h; have := HT7.out.d; omega
        · have := HT6.out.cb.rl; have := HBQ.out; omega))
      have hl1 : List.length (α := TileR) (l ++ [q.1]) = n + 1 := by have h1 : List.length (α := TileR) l = n := HN.out; rw [← h1]; exact List.length_append
      obtain ⟨A', k', rfl⟩ : ∃ A' k', v' = .slice A' (n + 1) k' := by
        obtain ⟨A', k', h⟩ := ho2.form
        exact ⟨A', k', h.trans (congrArg (fun m => Value.slice A' m k') hl1)⟩
      clear ho2 hgr h5
      obtain ⟨c0, c1, r0, r1⟩ := HBG.out.cells
      have rl := HBG.out.rl
      have cl := HBG.out.cl
      have f0 := HBG.out.fz 0
      obtain ⟨Y3, hY3⟩ : ∃ Y, W2.setCell ⟨C, 0, none⟩ (.slice A' (n + 1) k') = Y := ⟨_, rfl⟩
      rw [hY3] at HTG
      go_wp2_with fail
      try rw [hY3]
      have HLY := hide HTG.out.cb.cur.leftM_
      clear hY3
      go_roundw
      case rel => exact ⟨A', n + 1, k', l ++ [q.1], q.2, _, _, hl1, HTG.out, HGO.out, by have := HLL.out; have := HDEC.out; omega⟩
      case measure => rw [HLY.out, HLE.out]; exact HDEC.out
end Go.Proofs.YtppkanniefignaaGreatDoor
