/- law28: walks: the document's Parse. Printed by gen_d28g.py. law28: walks: certificates that are the same; rows that are written over. law28: CertParses: its walk. -/
import Derived.Test.YtppkanniefignaaGreatDoorG36
import Derived.Test.YtppkanniefignaaGreatDoorG38
set_option linter.unusedSimpArgs false
set_option linter.unusedVariables false
namespace Go.Proofs.YtppkanniefignaaGreatDoor
open Go.RowKit Go.Maps
set_option maxRecDepth 100000 in
set_option maxHeartbeats 32000000 in
theorem dparse28_any (s : ByteArray) (w : World) : Calls Tryz.prog 9 #[.string s] w (CertP (parse28 s) w) := by
 by_cases hbig : 262144 < s.size
 ·have hg : parse28 s = (⟨[], []⟩, 0, 0, 3) := by unfold parse28; rw [if_pos hbig]
  rw [hg]
  go_enter Tryz.func9, Tryz.ntmps9
  go_wp2_with fail
  refine bodyPost_ret (results_cert Tryz.results9 _ _ rfl (heap_alloc_new w _)) rfl ?_
  have hb := (Below.refl w.heap.size w).alloc (Nat.le_refl _) (.cells #[.slice none 0 0, .slice none 0 0] 26)
  exact ⟨none, 0, 0, none, 0, 0, _, _, _, rfl, CertO.none_ _ _ hb.size, hb⟩
 obtain ⟨i0, hi, hz, hz1, hz2⟩ := info_parts info_Tile28
 have HI0 := hide hi; have HZ := hide hz; have HZ1 := hide hz1; have HZ2 := hide hz2
 clear hi hz hz1 hz2
 obtain ⟨i1, hi, hz, hz1, hz2⟩ := info_parts info_Facts28
 have HI1 := hide hi; have HY := hide hz; have HY1 := hide hz1; have HY2 := hide hz2
 clear hi hz hz1 hz2
 have hs : s.size ≤ 262144 := by omega
 have hl := overT_len28 s hs
 obtain ⟨Z, hZ⟩ : ∃ C, w.heap.size = C := ⟨_, rfl⟩
 obtain ⟨W0, hW0⟩ : ∃ W0, w.alloc (.cells #[.slice none 0 0, .slice none 0 0] 26) = W0 := ⟨_, rfl⟩
 have HOV := hide (show Calls Tryz.prog 35 #[.string s] W0 (fun e w' => ∃ c, e = .returned (.pointer (some ⟨c, 0, none⟩)) ∧ DocAt w' (fun b => W0.heap.size ≤ b ∧ b < c) c (overT s) ∧ W0.heap.size ≤ c ∧ Below W0.heap.size W0 w') from dOver1 s W0 (by omega))
 obtain ⟨X, hX⟩ : ∃ X, tilesC ([], overT s) = X := ⟨_, rfl⟩
 obtain ⟨Y, hY⟩ : ∃ Y, edgesC ([], X.2) = Y := ⟨_, rfl⟩
 have hp : parse28 s = if (errC Y.2).2.2 ≠ 0 then (⟨[], []⟩, errC Y.2) else (⟨X.1, Y.1⟩, 0, 0, 0) := by
  unfold parse28 certC
  rw [if_neg hbig]
  simp only
  rw [hX, hY]
 obtain ⟨R, hR⟩ : ∃ Z, parse28 s = Z := ⟨_, rfl⟩
 rw [hR] at hp ⊢
 have HPZ := hide hp
 clear hR
 have HXQ := hide hX; have HYQ := hide hY; have HLQ := hide hl
 have HW0 := hide hW0
 clear hp hX hY hl hW0
 go_enter Tryz.func9, Tryz.ntmps9
 go_wp2_with (go_at_call 35; refine Hd.out ?_)
 rw [HW0.out]
 refine hide ?_
 refine HOV.out.mono ?_
 rintro e V1 ⟨c, rfl, hat, hcz, hb1⟩
 have HAT := hide hat; have HB1 := hide hb1
 clear hat hb1
 obtain ⟨M, hM⟩ : ∃ M, V1.heap.size = M := ⟨_, rfl⟩
 obtain ⟨W3, hW3⟩ : ∃ W3, V1.alloc (.cells #[.slice none 0 0, .slice none 0 0] 26) = W3 := ⟨_, rfl⟩
 obtain ⟨S0, hS0⟩ : ∃ S0 : Nat → Prop, S0 = fun b => W0.heap.size ≤ b ∧ b < c := ⟨_, rfl⟩
 have hz0 : Z + 1 = W0.heap.size := by rw [← HW0.out, ← hZ]; simp
 have hz1 : c < V1.heap.size := HAT.out.lt
 have HC := hide (show DAt w W3 Z M c W3.heap.size S0 (fun _ => False) (fun _ => False) (.slice none 0 0) (.slice none 0 0) [] [] (overT s) from by
  have hb1 := HB1.out; have hat := HAT.out
  rw [← hS0] at hat
  refine ⟨⟨?_, ?_, ?_, ?_, by omega, by omega, fun b h => by rw [hS0] at h; omega⟩, OwnL.nil_ _ _ _ _, OwnL.nil_ _ _ _ _, fun _ h => h.elim, fun _ h => h.elim, fun _ h => by simp [Value.ownBlock] at h, fun _ h => by simp [Value.ownBlock] at h, Nat.le_refl _⟩
  ·rw [← hW3, Below.heap_alloc _ _ _ (by omega), hb1.block Z (by omega), ← HW0.out, ← hZ]; exact heap_alloc_new w _
  ·rw [← hW3, ← hM]; exact heap_alloc_new V1 _
  ·rw [← hW3]; exact hat.alloc _
  ·have hb0 : Below Z w W0 := by rw [← HW0.out, ← hZ]; exact (Below.refl _ _).alloc (Nat.le_refl _) _
   rw [← hW3]
   exact (hb0.trans (hb1.mono (by omega))).alloc (by omega) _)
 have HCQ := hide hZ
 have HMQ := hide hM; have HW3 := hide hW3
 clear hz0 hz1 hZ hM hW3 hS0 HB1 HAT HOV hcz
 go_wp2_with fail
 try rw [HCQ.out]
 try rw [HMQ.out]
 try rw [HW3.out]
 go_loopw [] (fun wr => ∃ (A : Option Addr) (n k : Nat) (l : List Tile) (s' : Cur) (D : Nat) (St : Nat → Prop), l.length = n ∧ DAt w wr Z M c D S0 St (fun _ => False) (.slice A n k) (.slice none 0 0) l [] s' ∧ tilesC (l, s') = X ∧ n + leftC s' ≤ 1099511627770 ∧ (n ≤ 200 ∨ leftC s' = 0)) (fun wr => leftM c wr)
 case atStart => exact ⟨none, 0, 0, [], overT s, _, _, rfl, HC.out, HXQ.out, by have := HLQ.out; simpa using this, .inl (by omega)⟩
 case round =>
  obtain ⟨A, n, k, l, s', D, St, hn, ht, hx, hll, hnx⟩ := hrel
  have HT := hide ht; have HXX := hide hx; have HN := hide hn; have HLL := hide hll; have HNX0 := hide hnx
  have HLE := hide ht.cb.cur.leftM_
  clear ht hx hn hll HC hnx
  obtain ⟨m0, m1, f0, f1, ml⟩ := HT.out.cb.cells
  cases hk : isC (.nm tTile) s' with
  | false =>
   have HK := hide (show Calls Tryz.prog 36 #[.pointer (some ⟨c, 0, none⟩), .string ⟨#[116, 105, 108, 101]⟩] wr (DocP S0 c wr s' (.bool false)) from by have h := dKey HT.out.cb.cur tTile; rw [hk] at h; exact h)
   have HX1 := hide (show X = (l, s') from by rw [← HXX.out]; exact tilesC_stop (by unfold tilesG; rw [if_neg (by simp only; rw [hk]; decide)]))
   clear hk
   go_wp2_with (first | (go_at_call 36; (with_reducible refine HK.out.mono ?_); rintro e V4 ⟨rfl, hat, hon⟩; have HT4 := hide (HT.out.call hon hat); clear hat hon))
   clear m0 m1 f0 f1 ml HK HT HLE HXX HNX0
   have HN0 := HN
   go_loopw [] (fun wr => ∃ (B : Option Addr) (m j : Nat) (lf : List (List Fact)) (s2 : Cur) (Sf : Nat → Prop), lf.length = m ∧ DAt w wr Z M c D S0 St Sf (.slice A n k) (.slice B m j) l lf s2 ∧ edgesC (lf, s2) = Y ∧ m + leftC s2 ≤ 1099511627770 ∧ (m ≤ 400 ∨ leftC s2 = 0)) (fun wr => leftM c wr)
   case atStart => exact ⟨none, 0, 0, [], s', _, rfl, HT4.out, by rw [← HYQ.out, HX1.out], by have := HLL.out; omega, .inl (by omega)⟩
   case round =>
    obtain ⟨B, m, j, lf, s2, Sf, hn, ht, hx, hll, hnx⟩ := hrel
    have HT := hide ht; have HXX := hide hx; have HM := hide hn; have HLM := hide hll; have HNX0 := hide hnx
    have HLE := hide ht.cb.cur.leftM_
    clear ht hx hn hll HT4 HLL hnx
    obtain ⟨m0, m1, f0, f1, ml⟩ := HT.out.cb.cells
    cases hk : isC (.nm tEdge) s2 with
    | false =>
     have HK := hide (show Calls Tryz.prog 36 #[.pointer (some ⟨c, 0, none⟩), .string ⟨#[101, 100, 103, 101]⟩] wr (DocP S0 c wr s2 (.bool false)) from by have h := dKey HT.out.cb.cur tEdge; rw [hk] at h; exact h)
     have HY1 := hide (show Y = (lf, s2) from by rw [← HXX.out]; exact edgesC_stop (by unfold edgesG; rw [if_neg (by simp only; rw [hk]; decide)]))
     clear hk
     go_wp2_with (first | (go_at_call 36; (with_reducible refine HK.out.mono ?_); rintro e V5 ⟨rfl, hat, hon⟩; have HT5 := hide (HT.out.call hon hat); clear hat hon; refine Hd.out ?_))
     clear m0 m1 f0 f1 ml HK HT HLE HXX
     obtain ⟨⟨el, ec, ee⟩, he9⟩ : ∃ x, errC s2 = x := ⟨_, rfl⟩
     have HER := hide (show Calls Tryz.prog 40 #[.pointer (some ⟨c, 0, none⟩)] V5 (RetX (.tuple #[.int .i64 el, .int .i64 ec, .int .i64 ee]) V5) from by have h := dErr HT5.out.cb.cur; unfold errV at h; rw [he9] at h; exact h)
     have HZZ := hide (show R = if ee ≠ 0 then (⟨[], []⟩, el, ec, ee) else (⟨l, lf⟩, 0, 0, 0) from by rw [HPZ.out, HY1.out, HX1.out]; simp only; rw [he9])
     clear he9
     by_cases hee : ee = 0
     ·have heb : (ee != 0) = false := by simp [hee]
      have HZE := hide (show R = (⟨l, lf⟩, 0, 0, 0) from by rw [HZZ.out, if_neg (by simpa using hee)])
      clear hee
      refine hide ?_
      go_wp2_with (first | (go_at_call 40; (with_reducible refine HER.out.mono ?_); rintro e V9 ⟨rfl, u9, hu⟩; have HT9 := hide (hu ▸ HT5.out.ext u9); clear hu; refine Hd.out ?_))
      clear HER HT5
      obtain ⟨m0, m1, f0, f1, ml⟩ := HT9.out.cb.cells
      obtain ⟨z0, z1, y0, y1, zl⟩ := HT9.out.cb.zcells
      have HFN := hide (HT9.out.fin (.slice A n k) (.slice B m j))
      refine hide ?_
      go_wp2_with fail
      refine bodyPost_ret (results_cert Tryz.results9 _ _ rfl HFN.out.1) rfl ?_
      rw [HZE.out]
      have hC := HCQ.out
      obtain ⟨_, hf1, hf2, hf3, hf4⟩ := HFN.out
      exact ⟨A, n, k, B, m, j, D, St, Sf, rfl, ⟨hf1.lower28 (by have := HT9.out.cb.o1; have := HT9.out.cb.o2; omega), hf2.lower28 (by have := HT9.out.cb.o1; have := HT9.out.cb.o2; omega), fun b h => by have := HT9.out.st b h; have := HT9.out.cb.o1; have := HT9.out.cb.o2; omega, fun b h => by have := HT9.out.sf b h; have := HT9.out.cb.o1; have := HT9.out.cb.o2; omega, HT9.out.tb, HT9.out.fb, by have := HT9.out.d; omega⟩, hC ▸ hf3⟩
     ·have heb : (ee != 0) = true := by simpa using hee
      have HZE := hide (show R = (⟨[], []⟩, el, ec, ee) from by rw [HZZ.out, if_pos hee])
      clear hee
      refine hide ?_
      go_wp2_with (first | (go_at_call 40; (with_reducible refine HER.out.mono ?_); rintro e V9 ⟨rfl, u9, hu⟩; have HT9 := hide (hu ▸ HT5.out.ext u9); clear hu; refine Hd.out ?_))
      clear HER HT5
      obtain ⟨m0, m1, f0, f1, ml⟩ := HT9.out.cb.cells
      obtain ⟨z0, z1, y0, y1, zl⟩ := HT9.out.cb.zcells
      have HFN := hide (HT9.out.fin (.slice none 0 0) (.slice none 0 0))
      refine hide ?_
      go_wp2_with fail
      refine bodyPost_ret (results_cert Tryz.results9 _ _ rfl HFN.out.1) rfl ?_
      rw [HZE.out]
      have hC := HCQ.out
      obtain ⟨_, hf1, hf2, hf3, hf4⟩ := HFN.out
      exact ⟨none, 0, 0, none, 0, 0, _, _, _, rfl, CertO.none_ _ _ (by have := HT9.out.cb.zl; omega), hC ▸ hf3⟩
    | true =>
     have hn400 : m ≤ 400 := by have h1 := left_is hk; rcases HNX0.out with h | h; exact h; omega
     obtain ⟨s1, hs1⟩ : ∃ s1, unlessC (decide (m < 400)) 3 (popC s2) = s1 := ⟨_, rfl⟩
     obtain ⟨q, hq⟩ : ∃ q, factsC s1 = q := ⟨_, rfl⟩
     have hgo : edgesG (lf, s2) = some (lf ++ [q.1], q.2) := by
      unfold edgesG
      rw [if_pos hk]
      simp only
      rw [HM.out, hs1, hq]
     have HGO := hide (show edgesC (lf ++ [q.1], q.2) = Y from by rw [← HXX.out, edgesC_go hgo])
     have HDEC := hide (show leftC q.2 < leftC s2 from edgesG_dec _ _ hgo)
     have hls : leftC s1 ≤ 1099511627770 := by
      have h1 := left_unless (x := 3) (by decide) (decide (m < 400)) (popC s2)
      rw [hs1, left_pop] at h1
      have := HLM.out
      omega
     have HNX := hide (show m + 1 ≤ 400 ∨ leftC q.2 = 0 from by
      rcases Nat.lt_or_ge m 400 with h | h
      ·exact .inl (by omega)
      ·right
       have h1 : leftC s1 = 0 := by rw [← hs1, decide_eq_false (by omega)]; exact left_fail (by decide) _
       have h2 := left_factsC s1
       rw [hq] at h2
       omega)
     have HFL2 := hide (fun (W : World) (h : DocAt W S0 c s1) => show Calls Tryz.prog 39 #[.pointer (some ⟨c, 0, none⟩)] W (FactsPd S0 c q W) from hq ▸ dfacts28_any W S0 c s1 h (by omega))
     have HK := hide (show Calls Tryz.prog 36 #[.pointer (some ⟨c, 0, none⟩), .string ⟨#[101, 100, 103, 101]⟩] wr (DocP S0 c wr (popC s2) (.bool true)) from by have h := dKey HT.out.cb.cur tEdge; rw [hk] at h; exact h)
     have HS1Q := hide hs1
     clear hgo hk hs1 hq hls
     go_wp2_with (first | (go_at_call 36; (with_reducible refine HK.out.mono ?_); rintro e V4 ⟨rfl, hat, hon⟩; have HT4 := hide (HT.out.call hon hat); clear hat hon; refine Hd.out ?_))
     clear m0 m1 f0 f1 ml HK HT
     obtain ⟨m0, m1, f0, f1, ml⟩ := HT4.out.cb.cells
     by_cases hn2 : m = 400
     ·have hnb : ((m : Int) == 400) = true := by simp; omega
      have HFL := hide (show Calls Tryz.prog 37 #[.pointer (some ⟨c, 0, none⟩), .int .i64 3] V4 (DocP S0 c V4 s1 (.tuple #[])) from by have h := dFail HT4.out.cb.cur 3; rw [← HS1Q.out, hn2]; exact h)
      clear hn2
      refine hide ?_
      go_wp2_with (first | (go_at_call 37; (with_reducible refine HFL.out.mono ?_); rintro e V6 ⟨rfl, hat, hon⟩; have HT6 := hide (HT4.out.call hon hat); clear hat hon))
      clear m0 m1 f0 f1 ml HFL HT4
      obtain ⟨m0, m1, f0, f1, ml⟩ := HT6.out.cb.cells
      have hcM : M ≠ c := by have := HT6.out.cb.o2; omega
      obtain ⟨E, hE⟩ : ∃ E, V6.heap.size = E := ⟨_, rfl⟩
      have HEQ := hide hE
      refine wp_region_cur c [3] [3, 4] 5 (by kernel_rfl) rfl (by kernel_rfl) (by kernel_rfl) ?_
      simp only [List.take_succ_cons, List.take_zero, List.drop_succ_cons, List.drop_zero]
      repeat (refine flowG_known (by kernel_rfl) (fun K hK => ?_); go_simp; (first | (refine hK _ ?_; clear hK K) | (apply Exists.intro; refine ⟨fun w' => ?_, hK _ ?_⟩; (fail); clear hK K)))
      refine flowG_knownF (by kernel_rfl) (fun K hK => ⟨.slice B m j, fun W' hW' => ?_, hK _ ?_⟩)
      ·have x0 : W'.cell? ⟨M, 1, none⟩ = some (.slice B m j) := (World.cell?_of_block (hW'.block M ml hcM)).trans m1
       have x1 : M < W'.heap.size := Nat.lt_of_lt_of_le ml hW'.size
       go_simp
      clear hK K
      repeat (refine flowG_known (by kernel_rfl) (fun K hK => ?_); go_simp; (first | (refine hK _ ?_; clear hK K) | (apply Exists.intro; refine ⟨fun w' => ?_, hK _ ?_⟩; (fail); clear hK K)))
      refine flowG_keep [] (DFactsI S0 c E q) (by kernel_rfl) (DFactsI.stable_ rfl) (by kernel_rfl) (fun u hF => ?_) ?_
      ·try simp only [List.nil_append, List.cons_append, useH_f, useH_t, useH_nil]
       go_simp
       refine (HFL2.out _ (HT6.out.cb.cur.ext u)).mono ?_
       rintro e w' ⟨A1, n1, k1, rfl, ho1, hat, hon⟩
       exact ⟨_, rfl, ⟨A1, n1, k1, rfl, ho1.lower28 (by rw [size_ext]; have := HEQ.out; omega), hat⟩, hF.trans hon, fun h => by cases h⟩
      refine flowG_keepF [true] (DFactsB S0 c E q) (by kernel_rfl) (DFactsB.stable_ rfl) (fun W' hW' => ?_) ?_
      ·try simp only [List.nil_append, List.cons_append, useH_f, useH_t, useH_nil]
       rintro _ ⟨A1, n1, k1, rfl, ho1, hat⟩
       go_simp
       exact ⟨⟨_, A1, n1, k1, rfl, (by have := HEQ.out; have := hW'.size; omega), heap_alloc_new W' _, ho1.alloc _, hat.alloc _⟩, hW'.alloc _, fun _ => ext_alloc W' _⟩
      refine flowG_done [true, true] (by kernel_rfl) (fun W' hW' => ?_)
      simp only [List.nil_append, List.cons_append, endH_f, endH_t, endH_nil]
      rintro _ - _ ⟨g, A1, n1, k1, rfl, hg, hrow, ho1, hat⟩
      go_simp
      have HT7 := hide (HT6.out.call hW' hat)
      have HRW := hide hrow; have HO1 := hide ho1; have HGB := hide hg
      have HSW := hide hW'.size
      clear m0 m1 f0 f1 ml hcM hat hrow ho1 hg hE
      obtain ⟨Sf', hSt'⟩ : ∃ St' : Nat → Prop, St' = fun b => Sf b ∨ (E ≤ b ∧ b < W'.heap.size) := ⟨_, rfl⟩
      have HST := hide hSt'
      clear hSt'
      refine wpList_push_at (α := RowR Fact) W' rfl (.tmp 41) (.tmp 44) 24 rfl (M + 1) 37 i1 _ 24 Tryz.underlying24 HI1.out HY.out HY1.out HY2.out rfl (by decide) Sf Sf' (.slice B m j) lf [q.1] rfl HT7.out.of ⟨g, 0, none⟩ 1 1 [.slice A1 n1 k1] rfl rfl
       (RepL.single (show Rep.is (α := RowR Fact) W' Sf' q.1 [.slice A1 n1 k1] from ⟨A1, n1, k1, rfl, HO1.out.sl (fun b hb h => by rw [HST.out]; rcases h with h | h; exact h.elim; exact .inr ⟨h, hb⟩), HO1.out.room (fun b hb h => by rw [HST.out]; exact .inr ⟨hb, h⟩)⟩))
       (fun j u hj => lit_news (us := [.slice A1 n1 k1]) HRW.out j u hj)
       (fun b _ h => by rw [HST.out]; exact .inl h)
       (fun x hx h => by
        rw [HST.out] at h
        rcases h with h | h
        ·obtain ⟨_, _, _, h3⟩ := HT7.out.of
         exact h3 x hx h
        ·have := (HT6.out.of.below_ x hx).2; have := HEQ.out; omega)
       (fun b h => by
        rw [HST.out] at h
        rcases h with h | h
        ·exact (HT7.out.sf b h).2.2
        ·exact h.2)
       (by have h1 : List.length (α := RowR Fact) lf = m := HM.out; have := HLM.out; unfold maxLen; omega) (by have h1 : List.length (α := RowR Fact) lf = m := HM.out; have := HLM.out; omega) (by have := HT7.out.cb.ml; omega) ?_
      intro v' W2 ho2 hgr h5
      have HBG := hide (HT7.out.cb.grown hgr (fun x e => (HT7.out.of.below_ x e).1))
      have HTG := hide (HT7.out.push1 hgr ho2 (fun b h => by
        rw [HST.out] at h
        have := hgr.size
        rcases h with h | h
        ·have h1 := HT7.out.sf b h; omega
        ·have := HT6.out.cb.ml; have := HEQ.out; have := HT6.out.d; omega)
       (fun b e => by
        rcases h5 with h5 | h5
        ·exact HT7.out.fb b (h5 ▸ e)
        ·rw [h5] at e; injection e with e; have := HT7.out.d; omega))
      have hl1 : List.length (α := RowR Fact) (lf ++ [q.1]) = m + 1 := by have h1 : List.length (α := RowR Fact) lf = m := HM.out; rw [← h1]; exact List.length_append
      obtain ⟨A', k', rfl⟩ : ∃ A' k', v' = .slice A' (m + 1) k' := by
       obtain ⟨A', k', h⟩ := ho2.form
       exact ⟨A', k', h.trans (congrArg (fun m => Value.slice A' m k') hl1)⟩
      clear ho2 hgr h5
      obtain ⟨m0, m1, f0, f1, ml⟩ := HBG.out.cells
      obtain ⟨Y3, hY3⟩ : ∃ Y, W2.setCell ⟨M, 1, none⟩ (.slice A' (m + 1) k') = Y := ⟨_, rfl⟩
      rw [hY3] at HTG
      go_wp2_with fail
      try rw [hY3]
      have HLY := hide HTG.out.cb.cur.leftM_
      clear hY3
      go_roundw
      case rel => exact ⟨A', m + 1, k', lf ++ [q.1], q.2, _, hl1, HTG.out, HGO.out, by have := HLM.out; have := HDEC.out; omega, HNX.out⟩
      case measure => rw [HLY.out, HLE.out]; exact HDEC.out
     ·have hnb : ((m : Int) == 400) = false := by simp; omega
      have HT6 := hide (show DAt w V4 Z M c D S0 St Sf (.slice A n k) (.slice B m j) l lf s1 from by have h := HT4.out; rw [← HS1Q.out, decide_eq_true (by omega)]; exact h)
      clear hn2
      refine hide ?_
      go_wp2_with fail
      clear m0 m1 f0 f1 ml HT4
      obtain ⟨V6, hV6⟩ : ∃ V, V4 = V := ⟨_, rfl⟩
      rw [hV6] at HT6 ⊢
      obtain ⟨m0, m1, f0, f1, ml⟩ := HT6.out.cb.cells
      have hcM : M ≠ c := by have := HT6.out.cb.o2; omega
      obtain ⟨E, hE⟩ : ∃ E, V6.heap.size = E := ⟨_, rfl⟩
      have HEQ := hide hE
      refine wp_region_cur c [3] [3, 4] 5 (by kernel_rfl) rfl (by kernel_rfl) (by kernel_rfl) ?_
      simp only [List.take_succ_cons, List.take_zero, List.drop_succ_cons, List.drop_zero]
      repeat (refine flowG_known (by kernel_rfl) (fun K hK => ?_); go_simp; (first | (refine hK _ ?_; clear hK K) | (apply Exists.intro; refine ⟨fun w' => ?_, hK _ ?_⟩; (fail); clear hK K)))
      refine flowG_knownF (by kernel_rfl) (fun K hK => ⟨.slice B m j, fun W' hW' => ?_, hK _ ?_⟩)
      ·have x0 : W'.cell? ⟨M, 1, none⟩ = some (.slice B m j) := (World.cell?_of_block (hW'.block M ml hcM)).trans m1
       have x1 : M < W'.heap.size := Nat.lt_of_lt_of_le ml hW'.size
       go_simp
      clear hK K
      repeat (refine flowG_known (by kernel_rfl) (fun K hK => ?_); go_simp; (first | (refine hK _ ?_; clear hK K) | (apply Exists.intro; refine ⟨fun w' => ?_, hK _ ?_⟩; (fail); clear hK K)))
      refine flowG_keep [] (DFactsI S0 c E q) (by kernel_rfl) (DFactsI.stable_ rfl) (by kernel_rfl) (fun u hF => ?_) ?_
      ·try simp only [List.nil_append, List.cons_append, useH_f, useH_t, useH_nil]
       go_simp
       refine (HFL2.out _ (HT6.out.cb.cur.ext u)).mono ?_
       rintro e w' ⟨A1, n1, k1, rfl, ho1, hat, hon⟩
       exact ⟨_, rfl, ⟨A1, n1, k1, rfl, ho1.lower28 (by rw [size_ext]; have := HEQ.out; omega), hat⟩, hF.trans hon, fun h => by cases h⟩
      refine flowG_keepF [true] (DFactsB S0 c E q) (by kernel_rfl) (DFactsB.stable_ rfl) (fun W' hW' => ?_) ?_
      ·try simp only [List.nil_append, List.cons_append, useH_f, useH_t, useH_nil]
       rintro _ ⟨A1, n1, k1, rfl, ho1, hat⟩
       go_simp
       exact ⟨⟨_, A1, n1, k1, rfl, (by have := HEQ.out; have := hW'.size; omega), heap_alloc_new W' _, ho1.alloc _, hat.alloc _⟩, hW'.alloc _, fun _ => ext_alloc W' _⟩
      refine flowG_done [true, true] (by kernel_rfl) (fun W' hW' => ?_)
      simp only [List.nil_append, List.cons_append, endH_f, endH_t, endH_nil]
      rintro _ - _ ⟨g, A1, n1, k1, rfl, hg, hrow, ho1, hat⟩
      go_simp
      have HT7 := hide (HT6.out.call hW' hat)
      have HRW := hide hrow; have HO1 := hide ho1; have HGB := hide hg
      have HSW := hide hW'.size
      clear m0 m1 f0 f1 ml hcM hat hrow ho1 hg hE
      obtain ⟨Sf', hSt'⟩ : ∃ St' : Nat → Prop, St' = fun b => Sf b ∨ (E ≤ b ∧ b < W'.heap.size) := ⟨_, rfl⟩
      have HST := hide hSt'
      clear hSt'
      refine wpList_push_at (α := RowR Fact) W' rfl (.tmp 41) (.tmp 44) 24 rfl (M + 1) 37 i1 _ 24 Tryz.underlying24 HI1.out HY.out HY1.out HY2.out rfl (by decide) Sf Sf' (.slice B m j) lf [q.1] rfl HT7.out.of ⟨g, 0, none⟩ 1 1 [.slice A1 n1 k1] rfl rfl
       (RepL.single (show Rep.is (α := RowR Fact) W' Sf' q.1 [.slice A1 n1 k1] from ⟨A1, n1, k1, rfl, HO1.out.sl (fun b hb h => by rw [HST.out]; rcases h with h | h; exact h.elim; exact .inr ⟨h, hb⟩), HO1.out.room (fun b hb h => by rw [HST.out]; exact .inr ⟨hb, h⟩)⟩))
       (fun j u hj => lit_news (us := [.slice A1 n1 k1]) HRW.out j u hj)
       (fun b _ h => by rw [HST.out]; exact .inl h)
       (fun x hx h => by
        rw [HST.out] at h
        rcases h with h | h
        ·obtain ⟨_, _, _, h3⟩ := HT7.out.of
         exact h3 x hx h
        ·have := (HT6.out.of.below_ x hx).2; have := HEQ.out; omega)
       (fun b h => by
        rw [HST.out] at h
        rcases h with h | h
        ·exact (HT7.out.sf b h).2.2
        ·exact h.2)
       (by have h1 : List.length (α := RowR Fact) lf = m := HM.out; have := HLM.out; unfold maxLen; omega) (by have h1 : List.length (α := RowR Fact) lf = m := HM.out; have := HLM.out; omega) (by have := HT7.out.cb.ml; omega) ?_
      intro v' W2 ho2 hgr h5
      have HBG := hide (HT7.out.cb.grown hgr (fun x e => (HT7.out.of.below_ x e).1))
      have HTG := hide (HT7.out.push1 hgr ho2 (fun b h => by
        rw [HST.out] at h
        have := hgr.size
        rcases h with h | h
        ·have h1 := HT7.out.sf b h; omega
        ·have := HT6.out.cb.ml; have := HEQ.out; have := HT6.out.d; omega)
       (fun b e => by
        rcases h5 with h5 | h5
        ·exact HT7.out.fb b (h5 ▸ e)
        ·rw [h5] at e; injection e with e; have := HT7.out.d; omega))
      have hl1 : List.length (α := RowR Fact) (lf ++ [q.1]) = m + 1 := by have h1 : List.length (α := RowR Fact) lf = m := HM.out; rw [← h1]; exact List.length_append
      obtain ⟨A', k', rfl⟩ : ∃ A' k', v' = .slice A' (m + 1) k' := by
       obtain ⟨A', k', h⟩ := ho2.form
       exact ⟨A', k', h.trans (congrArg (fun m => Value.slice A' m k') hl1)⟩
      clear ho2 hgr h5
      obtain ⟨m0, m1, f0, f1, ml⟩ := HBG.out.cells
      obtain ⟨Y3, hY3⟩ : ∃ Y, W2.setCell ⟨M, 1, none⟩ (.slice A' (m + 1) k') = Y := ⟨_, rfl⟩
      rw [hY3] at HTG
      go_wp2_with fail
      try rw [hY3]
      have HLY := hide HTG.out.cb.cur.leftM_
      clear hY3
      go_roundw
      case rel => exact ⟨A', m + 1, k', lf ++ [q.1], q.2, _, hl1, HTG.out, HGO.out, by have := HLM.out; have := HDEC.out; omega, HNX.out⟩
      case measure => rw [HLY.out, HLE.out]; exact HDEC.out
  | true =>
   have hn200 : n ≤ 200 := by have h1 := left_is hk; rcases HNX0.out with h | h; exact h; omega
   obtain ⟨s1, hs1⟩ : ∃ s1, unlessC (decide (n < 200)) 3 (popC s') = s1 := ⟨_, rfl⟩
   obtain ⟨q, hq⟩ : ∃ q, tileC s1 = q := ⟨_, rfl⟩
   have hgo : tilesG (l, s') = some (l ++ [q.1], q.2) := by
    unfold tilesG
    rw [if_pos hk]
    simp only
    rw [HN.out, hs1, hq]
   have HGO := hide (show tilesC (l ++ [q.1], q.2) = X from by rw [← HXX.out, tilesC_go hgo])
   have HDEC := hide (show leftC q.2 < leftC s' from tilesG_dec _ _ hgo)
   have HQI := hide (show InI q.1.kind ∧ InI q.1.parent from hq ▸ tileC_in s1)
   have hls : leftC s1 ≤ 1099511627770 := by
    have h1 := left_unless (x := 3) (by decide) (decide (n < 200)) (popC s')
    rw [hs1, left_pop] at h1
    have := HLL.out
    omega
   have HNX := hide (show n + 1 ≤ 200 ∨ leftC q.2 = 0 from by
    rcases Nat.lt_or_ge n 200 with h | h
    ·exact .inl (by omega)
    ·right
     have h1 : leftC s1 = 0 := by rw [← hs1, decide_eq_false (by omega)]; exact left_fail (by decide) _
     have h2 := left_tile s1
     rw [hq] at h2
     omega)
   have HTL := hide (fun (W : World) (h : DocAt W S0 c s1) => show Calls Tryz.prog 38 #[.pointer (some ⟨c, 0, none⟩)] W (TilePd S0 c q W) from hq ▸ dtile28_any W S0 c s1 h (by omega))
   have HK := hide (show Calls Tryz.prog 36 #[.pointer (some ⟨c, 0, none⟩), .string ⟨#[116, 105, 108, 101]⟩] wr (DocP S0 c wr (popC s') (.bool true)) from by have h := dKey HT.out.cb.cur tTile; rw [hk] at h; exact h)
   have HS1Q := hide hs1
   clear hgo hk hs1 hq hls
   go_wp2_with (first | (go_at_call 36; (with_reducible refine HK.out.mono ?_); rintro e V4 ⟨rfl, hat, hon⟩; have HT4 := hide (HT.out.call hon hat); clear hat hon; refine Hd.out ?_))
   clear m0 m1 f0 f1 ml HK HT
   obtain ⟨m0, m1, f0, f1, ml⟩ := HT4.out.cb.cells
   by_cases hn2 : n = 200
   ·have hnb : ((n : Int) == 200) = true := by simp; omega
    have HFL := hide (show Calls Tryz.prog 37 #[.pointer (some ⟨c, 0, none⟩), .int .i64 3] V4 (DocP S0 c V4 s1 (.tuple #[])) from by have h := dFail HT4.out.cb.cur 3; rw [← HS1Q.out, hn2]; exact h)
    clear hn2
    refine hide ?_
    go_wp2_with (first | (go_at_call 37; (with_reducible refine HFL.out.mono ?_); rintro e V6 ⟨rfl, hat, hon⟩; have HT6 := hide (HT4.out.call hon hat); clear hat hon))
    clear m0 m1 f0 f1 ml HFL HT4
    obtain ⟨m0, m1, f0, f1, ml⟩ := HT6.out.cb.cells
    have hcM : M ≠ c := by have := HT6.out.cb.o2; omega
    obtain ⟨E, hE⟩ : ∃ E, V6.heap.size = E := ⟨_, rfl⟩
    have HEQ := hide hE
    refine wp_region_cur c [3] [3, 4] 5 (by kernel_rfl) rfl (by kernel_rfl) (by kernel_rfl) ?_
    simp only [List.take_succ_cons, List.take_zero, List.drop_succ_cons, List.drop_zero]
    repeat (refine flowG_known (by kernel_rfl) (fun K hK => ?_); go_simp; (first | (refine hK _ ?_; clear hK K) | (apply Exists.intro; refine ⟨fun w' => ?_, hK _ ?_⟩; (fail); clear hK K)))
    refine flowG_knownF (by kernel_rfl) (fun K hK => ⟨.slice A n k, fun W' hW' => ?_, hK _ ?_⟩)
    ·have x0 : W'.cell? ⟨M, 0, none⟩ = some (.slice A n k) := (World.cell?_of_block (hW'.block M ml hcM)).trans m0
     have x1 : M < W'.heap.size := Nat.lt_of_lt_of_le ml hW'.size
     go_simp
    clear hK K
    repeat (refine flowG_known (by kernel_rfl) (fun K hK => ?_); go_simp; (first | (refine hK _ ?_; clear hK K) | (apply Exists.intro; refine ⟨fun w' => ?_, hK _ ?_⟩; (fail); clear hK K)))
    refine flowG_keep [] (DTileI S0 c E q) (by kernel_rfl) (DTileI.stable_ rfl) (by kernel_rfl) (fun u hF => ?_) ?_
    ·try simp only [List.nil_append, List.cons_append, useH_f, useH_t, useH_nil]
     go_simp
     refine (HTL.out _ (HT6.out.cb.cur.ext u)).mono ?_
     rintro e w' ⟨A1, n1, k1, rfl, ho1, hat, hon⟩
     exact ⟨_, rfl, ⟨A1, n1, k1, rfl, ho1.lower28 (by rw [size_ext]; have := HEQ.out; omega), hat⟩, hF.trans hon, fun h => by cases h⟩
    refine flowG_keepF [true] (DTileL S0 c E q) (by kernel_rfl) (DTileL.stable_ rfl) (fun W' hW' => ?_) ?_
    ·try simp only [List.nil_append, List.cons_append, useH_f, useH_t, useH_nil]
     rintro _ ⟨A1, n1, k1, rfl, ho1, hat⟩
     go_simp
     exact ⟨⟨_, A1, n1, k1, rfl, (by have := HEQ.out; have := hW'.size; omega), heap_alloc_new W' _, ho1.alloc _, hat.alloc _⟩, hW'.alloc _, fun _ => ext_alloc W' _⟩
    refine flowG_done [true, true] (by kernel_rfl) (fun W' hW' => ?_)
    simp only [List.nil_append, List.cons_append, endH_f, endH_t, endH_nil]
    rintro _ - _ ⟨g, A1, n1, k1, rfl, hg, hrow, ho1, hat⟩
    go_simp
    have HT7 := hide (HT6.out.call hW' hat)
    have HRW := hide hrow; have HO1 := hide ho1; have HGB := hide hg
    have HSW := hide hW'.size
    clear m0 m1 f0 f1 ml hcM hat hrow ho1 hg hE
    obtain ⟨St', hSt'⟩ : ∃ St' : Nat → Prop, St' = fun b => St b ∨ (E ≤ b ∧ b < W'.heap.size) := ⟨_, rfl⟩
    have HST := hide hSt'
    clear hSt'
    refine wpList_push_at (α := TileR) W' rfl (.tmp 26) (.tmp 29) 23 rfl (M + 1) 35 i0 _ 40 Tryz.underlying23 HI0.out HZ.out HZ1.out HZ2.out rfl (by decide) St St' (.slice A n k) l [q.1] rfl HT7.out.ot ⟨g, 0, none⟩ 1 1 [.int .i64 q.1.kind, .int .i64 q.1.parent, .slice A1 n1 k1] rfl rfl
     (RepL.single ⟨A1, n1, k1, rfl, HQI.out.1, HQI.out.2, HO1.out.sl (fun b hb h => by rw [HST.out]; rcases h with h | h; exact h.elim; exact .inr ⟨h, hb⟩), HO1.out.room (fun b hb h => by rw [HST.out]; exact .inr ⟨hb, h⟩)⟩)
     (fun j u hj => lit_news (us := [.int .i64 q.1.kind, .int .i64 q.1.parent, .slice A1 n1 k1]) HRW.out j u hj)
     (fun b _ h => by rw [HST.out]; exact .inl h)
     (fun x hx h => by
      rw [HST.out] at h
      rcases h with h | h
      ·obtain ⟨_, _, _, h3⟩ := HT7.out.ot
       exact h3 x hx h
      ·have := (HT6.out.ot.below_ x hx).2; have := HEQ.out; omega)
     (fun b h => by
      rw [HST.out] at h
      rcases h with h | h
      ·have := (HT7.out.st b h).2; have := HT7.out.d; omega
      ·exact h.2)
     (by have h1 : List.length (α := TileR) l = n := HN.out; have := HLL.out; unfold maxLen; omega) (by have h1 : List.length (α := TileR) l = n := HN.out; have := HLL.out; omega) (by have := HT7.out.cb.ml; omega) ?_
    intro v' W2 ho2 hgr h5
    have HBG := hide (HT7.out.cb.grown hgr (fun x e => (HT7.out.ot.below_ x e).1))
    have HTG := hide (HT7.out.push0 hgr ho2 (fun b h => by
     rw [HST.out] at h
     have := hgr.size
     rcases h with h | h
     ·have h1 := HT7.out.st b h; have := HT7.out.d; omega
     ·have := HT6.out.cb.ml; have := HEQ.out; omega))
    have hl1 : List.length (α := TileR) (l ++ [q.1]) = n + 1 := by have h1 : List.length (α := TileR) l = n := HN.out; rw [← h1]; exact List.length_append
    obtain ⟨A', k', rfl⟩ : ∃ A' k', v' = .slice A' (n + 1) k' := by
     obtain ⟨A', k', h⟩ := ho2.form
     exact ⟨A', k', h.trans (congrArg (fun m => Value.slice A' m k') hl1)⟩
    clear ho2 hgr h5
    obtain ⟨m0, m1, f0, f1, ml⟩ := HBG.out.cells
    obtain ⟨Y3, hY3⟩ : ∃ Y, W2.setCell ⟨M, 0, none⟩ (.slice A' (n + 1) k') = Y := ⟨_, rfl⟩
    rw [hY3] at HTG
    go_wp2_with fail
    try rw [hY3]
    have HLY := hide HTG.out.cb.cur.leftM_
    clear hY3
    go_roundw
    case rel => exact ⟨A', n + 1, k', l ++ [q.1], q.2, _, _, hl1, HTG.out, HGO.out, by have := HLL.out; have := HDEC.out; omega, HNX.out⟩
    case measure => rw [HLY.out, HLE.out]; exact HDEC.out
   ·have hnb : ((n : Int) == 200) = false := by simp; omega
    have HT6 := hide (show DAt w V4 Z M c D S0 St (fun _ => False) (.slice A n k) (.slice none 0 0) l [] s1 from by have h := HT4.out; rw [← HS1Q.out, decide_eq_true (by omega)]; exact h)
    clear hn2
    refine hide ?_
    go_wp2_with fail
    clear m0 m1 f0 f1 ml HT4
    obtain ⟨V6, hV6⟩ : ∃ V, V4 = V := ⟨_, rfl⟩
    rw [hV6] at HT6 ⊢
    obtain ⟨m0, m1, f0, f1, ml⟩ := HT6.out.cb.cells
    have hcM : M ≠ c := by have := HT6.out.cb.o2; omega
    obtain ⟨E, hE⟩ : ∃ E, V6.heap.size = E := ⟨_, rfl⟩
    have HEQ := hide hE
    refine wp_region_cur c [3] [3, 4] 5 (by kernel_rfl) rfl (by kernel_rfl) (by kernel_rfl) ?_
    simp only [List.take_succ_cons, List.take_zero, List.drop_succ_cons, List.drop_zero]
    repeat (refine flowG_known (by kernel_rfl) (fun K hK => ?_); go_simp; (first | (refine hK _ ?_; clear hK K) | (apply Exists.intro; refine ⟨fun w' => ?_, hK _ ?_⟩; (fail); clear hK K)))
    refine flowG_knownF (by kernel_rfl) (fun K hK => ⟨.slice A n k, fun W' hW' => ?_, hK _ ?_⟩)
    ·have x0 : W'.cell? ⟨M, 0, none⟩ = some (.slice A n k) := (World.cell?_of_block (hW'.block M ml hcM)).trans m0
     have x1 : M < W'.heap.size := Nat.lt_of_lt_of_le ml hW'.size
     go_simp
    clear hK K
    repeat (refine flowG_known (by kernel_rfl) (fun K hK => ?_); go_simp; (first | (refine hK _ ?_; clear hK K) | (apply Exists.intro; refine ⟨fun w' => ?_, hK _ ?_⟩; (fail); clear hK K)))
    refine flowG_keep [] (DTileI S0 c E q) (by kernel_rfl) (DTileI.stable_ rfl) (by kernel_rfl) (fun u hF => ?_) ?_
    ·try simp only [List.nil_append, List.cons_append, useH_f, useH_t, useH_nil]
     go_simp
     refine (HTL.out _ (HT6.out.cb.cur.ext u)).mono ?_
     rintro e w' ⟨A1, n1, k1, rfl, ho1, hat, hon⟩
     exact ⟨_, rfl, ⟨A1, n1, k1, rfl, ho1.lower28 (by rw [size_ext]; have := HEQ.out; omega), hat⟩, hF.trans hon, fun h => by cases h⟩
    refine flowG_keepF [true] (DTileL S0 c E q) (by kernel_rfl) (DTileL.stable_ rfl) (fun W' hW' => ?_) ?_
    ·try simp only [List.nil_append, List.cons_append, useH_f, useH_t, useH_nil]
     rintro _ ⟨A1, n1, k1, rfl, ho1, hat⟩
     go_simp
     exact ⟨⟨_, A1, n1, k1, rfl, (by have := HEQ.out; have := hW'.size; omega), heap_alloc_new W' _, ho1.alloc _, hat.alloc _⟩, hW'.alloc _, fun _ => ext_alloc W' _⟩
    refine flowG_done [true, true] (by kernel_rfl) (fun W' hW' => ?_)
    simp only [List.nil_append, List.cons_append, endH_f, endH_t, endH_nil]
    rintro _ - _ ⟨g, A1, n1, k1, rfl, hg, hrow, ho1, hat⟩
    go_simp
    have HT7 := hide (HT6.out.call hW' hat)
    have HRW := hide hrow; have HO1 := hide ho1; have HGB := hide hg
    have HSW := hide hW'.size
    clear m0 m1 f0 f1 ml hcM hat hrow ho1 hg hE
    obtain ⟨St', hSt'⟩ : ∃ St' : Nat → Prop, St' = fun b => St b ∨ (E ≤ b ∧ b < W'.heap.size) := ⟨_, rfl⟩
    have HST := hide hSt'
    clear hSt'
    refine wpList_push_at (α := TileR) W' rfl (.tmp 26) (.tmp 29) 23 rfl (M + 1) 35 i0 _ 40 Tryz.underlying23 HI0.out HZ.out HZ1.out HZ2.out rfl (by decide) St St' (.slice A n k) l [q.1] rfl HT7.out.ot ⟨g, 0, none⟩ 1 1 [.int .i64 q.1.kind, .int .i64 q.1.parent, .slice A1 n1 k1] rfl rfl
     (RepL.single ⟨A1, n1, k1, rfl, HQI.out.1, HQI.out.2, HO1.out.sl (fun b hb h => by rw [HST.out]; rcases h with h | h; exact h.elim; exact .inr ⟨h, hb⟩), HO1.out.room (fun b hb h => by rw [HST.out]; exact .inr ⟨hb, h⟩)⟩)
     (fun j u hj => lit_news (us := [.int .i64 q.1.kind, .int .i64 q.1.parent, .slice A1 n1 k1]) HRW.out j u hj)
     (fun b _ h => by rw [HST.out]; exact .inl h)
     (fun x hx h => by
      rw [HST.out] at h
      rcases h with h | h
      ·obtain ⟨_, _, _, h3⟩ := HT7.out.ot
       exact h3 x hx h
      ·have := (HT6.out.ot.below_ x hx).2; have := HEQ.out; omega)
     (fun b h => by
      rw [HST.out] at h
      rcases h with h | h
      ·have := (HT7.out.st b h).2; have := HT7.out.d; omega
      ·exact h.2)
     (by have h1 : List.length (α := TileR) l = n := HN.out; have := HLL.out; unfold maxLen; omega) (by have h1 : List.length (α := TileR) l = n := HN.out; have := HLL.out; omega) (by have := HT7.out.cb.ml; omega) ?_
    intro v' W2 ho2 hgr h5
    have HBG := hide (HT7.out.cb.grown hgr (fun x e => (HT7.out.ot.below_ x e).1))
    have HTG := hide (HT7.out.push0 hgr ho2 (fun b h => by
     rw [HST.out] at h
     have := hgr.size
     rcases h with h | h
     ·have h1 := HT7.out.st b h; have := HT7.out.d; omega
     ·have := HT6.out.cb.ml; have := HEQ.out; omega))
    have hl1 : List.length (α := TileR) (l ++ [q.1]) = n + 1 := by have h1 : List.length (α := TileR) l = n := HN.out; rw [← h1]; exact List.length_append
    obtain ⟨A', k', rfl⟩ : ∃ A' k', v' = .slice A' (n + 1) k' := by
     obtain ⟨A', k', h⟩ := ho2.form
     exact ⟨A', k', h.trans (congrArg (fun m => Value.slice A' m k') hl1)⟩
    clear ho2 hgr h5
    obtain ⟨m0, m1, f0, f1, ml⟩ := HBG.out.cells
    obtain ⟨Y3, hY3⟩ : ∃ Y, W2.setCell ⟨M, 0, none⟩ (.slice A' (n + 1) k') = Y := ⟨_, rfl⟩
    rw [hY3] at HTG
    go_wp2_with fail
    try rw [hY3]
    have HLY := hide HTG.out.cb.cur.leftM_
    clear hY3
    go_roundw
    case rel => exact ⟨A', n + 1, k', l ++ [q.1], q.2, _, _, hl1, HTG.out, HGO.out, by have := HLL.out; have := HDEC.out; omega, HNX.out⟩
    case measure => rw [HLY.out, HLE.out]; exact HDEC.out
end Go.Proofs.YtppkanniefignaaGreatDoor
namespace Go.Proofs.YtppkanniefignaaGreatDoor
open Go.RowKit Go.Maps
structure Ovr (w w' : World) (T : Nat → Prop) : Prop where
 os : w'.os = w.os
 tape : w'.tape = w.tape
 output : w'.output = w.output
 size : w.heap.size ≤ w'.heap.size
 block : ∀ b, b < w.heap.size → ¬ T b → w'.heap[b]? = w.heap[b]?
 same : ∀ (b : Nat) (cur : Array Value) (ty : TypeId), w.heap[b]? = some (Obj.cells cur ty (0, 0)) → ∃ cur' : Array Value, w'.heap[b]? = some (.cells cur' ty (0, 0)) ∧ cur'.size = cur.size
section
variable {w w' w'' : World} {T T' : Nat → Prop}
theorem Ovr.refl (w : World) (T : Nat → Prop) : Ovr w w T := ⟨rfl, rfl, rfl, Nat.le_refl _, fun _ _ _ => rfl, fun _ cur _ h => ⟨cur, h, rfl⟩⟩
theorem Ovr.trans (h : Ovr w w' T) (h' : Ovr w' w'' T) : Ovr w w'' T :=
 ⟨h'.os.trans h.os, h'.tape.trans h.tape, h'.output.trans h.output, Nat.le_trans h.size h'.size, fun b hb hT => (h'.block b (Nat.lt_of_lt_of_le hb h.size) hT).trans (h.block b hb hT), fun b cur ty hc => by
  obtain ⟨c1, h1, e1⟩ := h.same b cur ty hc
  obtain ⟨c2, h2, e2⟩ := h'.same b c1 ty h1
  exact ⟨c2, h2, e2.trans e1⟩⟩
theorem Ovr.mono (h : Ovr w w' T) (hT : ∀ b, T b → T' b) : Ovr w w' T' := ⟨h.os, h.tape, h.output, h.size, fun b hb hn => h.block b hb fun e => hn (hT b e), h.same⟩
theorem Ovr.of_below (h : Below w.heap.size w w') : Ovr w w' T := ⟨h.os, h.tape, h.output, h.size, fun b hb _ => h.block b hb, fun b cur _ hc => ⟨cur, (h.block b (Array.getElem?_eq_some_iff.1 hc).1).trans hc, rfl⟩⟩
theorem Ovr.set (w : World) {g j : Nat} (hg : T g) (x : Value) : Ovr w (w.setCell ⟨g, j, none⟩ x) T :=
 ⟨rfl, rfl, rfl, by simp, fun b _ hT => Below.heap_setCell w ⟨g, j, none⟩ x b (fun e => hT (e ▸ hg)), fun b cur ty hc => by
  by_cases hb : b = g
  ·subst hb
   exact ⟨_, row_setB hc j x, by simp⟩
  ·exact ⟨cur, (Below.heap_setCell w ⟨g, j, none⟩ x b hb).trans hc, rfl⟩⟩
theorem Ovr.below (h : Ovr w w' T) {B : Nat} (hB : B ≤ w.heap.size) (hT : ∀ b, T b → B ≤ b) : Below B w w' := ⟨h.os, h.tape, h.output, h.size, fun b hb => h.block b (by omega) (fun e => by have := hT b e; omega)⟩
theorem Ovr.room (h : Ovr w w' T) {S : Nat → Prop} {sz c : Nat} {A : Option Addr} (hr : Room w S sz A c) : Room w' S sz A c := by
 rcases hr with hr | ⟨g, cur, ty, e, h1, h2, h3, h4⟩
 ·exact .inl hr
 ·obtain ⟨cur', g1, g2⟩ := h.same g cur ty h3
  exact .inr ⟨g, cur', ty, e, h1, Nat.lt_of_lt_of_le h2 h.size, g1, g2.trans h4⟩
end
set_option maxRecDepth 100000 in
set_option maxHeartbeats 8000000 in
theorem overInts28_any (w : World) (S : Nat → Prop) (A : Option Addr) (n c : Nat) (hr : Room w S 1 A c) (hnc : n ≤ c) (hc : c ≤ 9223372036854775807) (hn : n ≤ 1099511627776) :
  Calls Tryz.prog 11 #[.slice A n c] w (fun e w' => e = .returned (.tuple #[]) ∧ Ovr w w' S) := by
 rcases hr with ⟨rfl, rfl⟩ | ⟨g, cur, ty, rfl, hS, hg, hrow, hsz⟩
 ·have h0 : n = 0 := by omega
  subst h0
  go_enter Tryz.func11, Tryz.ntmps11
  go_wp2_with fail
  go_loopw [3] (fun i wr => i = .int .i64 0 ∧ wr = w) (fun _ _ => 0)
  case atStart => exact ⟨rfl, rfl⟩
  case round =>
   obtain ⟨rfl, rfl⟩ := hrel
   go_wp2_with fail
   go_end0
   exact ⟨rfl, Ovr.refl _ _⟩
 ·rw [Nat.mul_one] at hsz
  obtain ⟨L, hL⟩ : ∃ L, min c (n + 12) = L := ⟨_, rfl⟩
  have hLc : L ≤ c := by omega
  have hLb : L ≤ 1099511627788 := by omega
  have hmin : min (c : Int) ((n : Int) + 12) = (L : Int) := by omega
  have HS := hide hS; have HROW := hide hrow; have HSZ := hide hsz
  clear hL hS hrow hsz
  go_enter Tryz.func11, Tryz.ntmps11
  go_wp2_with fail
  go_loopw [3] (fun i wr => ∃ k : Nat, k ≤ L ∧ i = .int .i64 k ∧ Ovr w wr S) (fun i _ => L - (intOf i).toNat)
  case atStart => exact ⟨0, Nat.zero_le _, rfl, Ovr.refl _ _⟩
  case round =>
   obtain ⟨k, hk, rfl, hov⟩ := hrel
   have HOV := hide hov
   clear hov
   by_cases hlt : k < L
   ·obtain ⟨cur', h1, h2⟩ := HOV.out.same g cur ty HROW.out
    have h3 := HSZ.out
    have hkc : k < cur'.size := by omega
    have k0 : wr.cell? ⟨g, k, none⟩ = some cur'[k] := by rw [cell_of_row wr g k cur' ty (0, 0) h1]; exact Array.getElem?_eq_getElem hkc
    have f0 : wr.frozen? ⟨g, k, none⟩ = false := by simp [World.frozen?, h1]
    generalize cur'[k] = u0 at k0
    clear hkc
    have gl : g < wr.heap.size := (Array.getElem?_eq_some_iff.1 h1).1
    clear h1 h2 h3
    have hkL : (k : Int) < L := by omega
    obtain ⟨mm, hmm⟩ : ∃ m, markI 2 k = m := ⟨_, rfl⟩
    have HMA := hide (fun W => show Calls Tryz.prog 43 #[.int .i64 2, .int .i64 k] W (Ret (.int .i64 mm) W) from hmm ▸ mark28_any 2 k W ⟨by omega, by omega⟩ ⟨by omega, by omega⟩)
    clear hmm
    go_wp2_with (first | (go_at_call 43; (with_reducible refine (HMA.out _).mono ?_); rintro e _ ⟨rfl, rfl⟩))
    have HO2 := hide (HOV.out.trans (Ovr.set wr (j := k) HS.out (.int .i64 mm)))
    go_roundw
    case rel => exact ⟨k + 1, by omega, by go_num, HO2.out⟩
    case measure => simp [intOf]; omega
   ·go_wp2_with fail
    go_end0
    exact ⟨rfl, HOV.out⟩
set_option maxRecDepth 100000 in
set_option maxHeartbeats 8000000 in
theorem overFacts28_any (w : World) (S : Nat → Prop) (A : Option Addr) (n c : Nat) (hr : Room w S 3 A c) (hnc : n ≤ c) (hc : c ≤ 9223372036854775807) (hn : n ≤ 1099511627776) :
  Calls Tryz.prog 12 #[.slice A n c] w (fun e w' => e = .returned (.tuple #[]) ∧ Ovr w w' S) := by
 rcases hr with ⟨rfl, rfl⟩ | ⟨g, cur, ty, rfl, hS, hg, hrow, hsz⟩
 ·have h0 : n = 0 := by omega
  subst h0
  go_enter Tryz.func12, Tryz.ntmps12
  go_wp2_with fail
  go_loopw [3] (fun i wr => i = .int .i64 0 ∧ wr = w) (fun _ _ => 0)
  case atStart => exact ⟨rfl, rfl⟩
  case round =>
   obtain ⟨rfl, rfl⟩ := hrel
   go_wp2_with fail
   go_end0
   exact ⟨rfl, Ovr.refl _ _⟩
 ·obtain ⟨L, hL⟩ : ∃ L, min c (n + 12) = L := ⟨_, rfl⟩
  have hLc : L ≤ c := by omega
  have hLb : L ≤ 1099511627788 := by omega
  have hmin : min (c : Int) ((n : Int) + 12) = (L : Int) := by omega
  have HS := hide hS; have HROW := hide hrow; have HSZ := hide hsz
  clear hL hS hrow hsz
  go_enter Tryz.func12, Tryz.ntmps12
  go_wp2_with fail
  go_loopw [3] (fun i wr => ∃ k : Nat, k ≤ L ∧ i = .int .i64 k ∧ Ovr w wr S) (fun i _ => L - (intOf i).toNat)
  case atStart => exact ⟨0, Nat.zero_le _, rfl, Ovr.refl _ _⟩
  case round =>
   obtain ⟨k, hk, rfl, hov⟩ := hrel
   have HOV := hide hov
   clear hov
   by_cases hlt : k < L
   ·obtain ⟨cur', h1, h2⟩ := HOV.out.same g cur ty HROW.out
    have h3 := HSZ.out
    have hc0 : k * 3 < cur'.size := by omega
    have hc1 : k * 3 + 1 < cur'.size := by omega
    have hc2 : k * 3 + 2 < cur'.size := by omega
    have k0 : wr.cell? ⟨g, k * 3, none⟩ = some cur'[k * 3] := by rw [cell_of_row wr g (k * 3) cur' ty (0, 0) h1]; exact Array.getElem?_eq_getElem hc0
    have k1 : wr.cell? ⟨g, k * 3 + 1, none⟩ = some cur'[k * 3 + 1] := by rw [cell_of_row wr g (k * 3 + 1) cur' ty (0, 0) h1]; exact Array.getElem?_eq_getElem hc1
    have k2 : wr.cell? ⟨g, k * 3 + 2, none⟩ = some cur'[k * 3 + 2] := by rw [cell_of_row wr g (k * 3 + 2) cur' ty (0, 0) h1]; exact Array.getElem?_eq_getElem hc2
    have f0 : wr.frozen? ⟨g, k * 3, none⟩ = false := by simp [World.frozen?, h1]
    have f1 : wr.frozen? ⟨g, k * 3 + 1, none⟩ = false := by simp [World.frozen?, h1]
    have f2 : wr.frozen? ⟨g, k * 3 + 2, none⟩ = false := by simp [World.frozen?, h1]
    generalize cur'[k * 3] = u0 at k0
    generalize cur'[k * 3 + 1] = u1 at k1
    generalize cur'[k * 3 + 2] = u2 at k2
    clear hc0 hc1 hc2
    have gl : g < wr.heap.size := (Array.getElem?_eq_some_iff.1 h1).1
    clear h1 h2 h3
    have hkL : (k : Int) < L := by omega
    obtain ⟨mm, hmm⟩ : ∃ m, markI 2 k = m := ⟨_, rfl⟩
    have HMA := hide (fun W => show Calls Tryz.prog 44 #[.int .i64 2, .int .i64 k] W (RetX (.agg #[.int .i64 mm, .bool false, .int .i64 0]) W) from hmm ▸ markFact28_any 2 k W ⟨by omega, by omega⟩ ⟨by omega, by omega⟩)
    clear hmm
    go_wp2_with (first | (go_at_call 44; (with_reducible refine (HMA.out _).mono ?_); rintro e _ ⟨rfl, ux, rfl⟩))
    have HO2 := hide (show Ovr w ((((wr.setCell ⟨g, k * 3, none⟩ (.int .i64 mm)).setCell ⟨g, k * 3 + 1, none⟩ (.bool false)).setCell ⟨g, k * 3 + 2, none⟩ (.int .i64 0)).ext ux) S from (((HOV.out.trans (Ovr.set wr HS.out _)).trans (Ovr.set _ HS.out _)).trans (Ovr.set _ HS.out _)).trans (Ovr.of_below (Below.of_ext _ _ (Nat.le_refl _))))
    go_roundw
    case rel => exact ⟨k + 1, by omega, by go_num, HO2.out⟩
    case measure => simp [intOf]; omega
   ·go_wp2_with fail
    go_end0
    exact ⟨rfl, HOV.out⟩
end Go.Proofs.YtppkanniefignaaGreatDoor
namespace Go.Proofs.YtppkanniefignaaGreatDoor
open Go.RowKit Go.Maps
theorem loop_inv {σ : Type} {go : σ → Option σ} (P : σ → Prop) (h : ∀ x y, P x → go x = some y → P y) : ∀ (f : Nat) (x : σ), P x → P (loopC go f x)
 | 0, _, hx => hx
 | f + 1, x, hx => by
  cases hg : go x with
  | none => rw [loop_none hg]; exact hx
  | some y => rw [loop_some hg]; exact loop_inv P h f y (h x y hx hg)
theorem blocks_len (x : List Int × Cur) : (blocksC x).1.length ≤ x.1.length + leftC x.2 := by
 have h := loop_inv (go := blockG) (fun y => y.1.length + leftC y.2 ≤ x.1.length + leftC x.2) (fun y z hy hz => by
  have hd := blockG_dec y z hz
  unfold blockG at hz
  split at hz
  ·cases hz
  ·injection hz with hz
   subst hz
   simp only [List.length_append, List.length_cons, List.length_nil] at hd ⊢
   omega) (leftC x.2) x (Nat.le_refl _)
 unfold blocksC runC
 exact Nat.le_trans (Nat.le_add_right _ _) h
theorem tile_len (s : Cur) : (tileC s).1.blocks.length ≤ leftC s := by
 unfold tileC
 simp only
 refine Nat.le_trans (blocks_len _) ?_
 have h1 := left_kind kindsB 1 s
 have h2 := left_unless (x := 7) (by decide) ((kindC kindsB 1 s).1 != 0) (kindC kindsB 1 s).2
 have h3 := left_num (-1) 199 (unlessC ((kindC kindsB 1 s).1 != 0) 7 (kindC kindsB 1 s).2)
 have h4 := left_mark [tColon] (numC (-1) 199 (unlessC ((kindC kindsB 1 s).1 != 0) 7 (kindC kindsB 1 s).2)).2
 simp only [List.length_nil]
 omega
theorem facts_len (s : Cur) : (factsC s).1.length ≤ leftC s + 1 := by
 have h := loop_inv (go := factG) (fun y => y.1.1.length + factM y ≤ leftC s + 1) (fun y z hy hz => by
  have hd := factG_dec y z hz
  unfold factG at hz
  split at hz
  ·injection hz with hz
   subst hz
   simp only [List.length_append, List.length_cons, List.length_nil] at hd ⊢
   omega
  ·cases hz) (factM (([], !endsC s), s)) (([], !endsC s), s) (by unfold factM; simp only [List.length_nil]; split <;> omega)
 unfold factsC factsL runC
 simp only
 exact Nat.le_trans (Nat.le_add_right _ _) h
theorem tiles_small (s : Cur) : (∀ t ∈ (tilesC ([], s)).1, t.blocks.length ≤ leftC s) ∧ leftC (tilesC ([], s)).2 ≤ leftC s := by
 have h := loop_inv (go := tilesG) (fun y => (∀ t ∈ y.1, t.blocks.length ≤ leftC s) ∧ leftC y.2 ≤ leftC s) (fun y z hy hz => by
  have hd := tilesG_dec y z hz
  unfold tilesG at hz
  split at hz
  ·injection hz with hz
   subst hz
   refine ⟨fun t ht => ?_, by simp only at hd ⊢; omega⟩
   rcases List.mem_append.1 ht with ht | ht
   ·exact hy.1 t ht
   ·rw [List.mem_singleton] at ht
    subst ht
    refine Nat.le_trans (tile_len _) ?_
    have h1 := left_unless (x := 3) (by decide) (decide (y.1.length < 200)) (popC y.2)
    rw [left_pop] at h1
    have := hy.2
    omega
  ·cases hz) (leftC s) ([], s) ⟨fun _ h => (by cases h), Nat.le_refl _⟩
 exact h
theorem edges_small (s : Cur) : ∀ t ∈ (edgesC ([], s)).1, t.length ≤ leftC s + 1 := by
 have h := loop_inv (go := edgesG) (fun y => (∀ t ∈ y.1, t.length ≤ leftC s + 1) ∧ leftC y.2 ≤ leftC s) (fun y z hy hz => by
  have hd := edgesG_dec y z hz
  unfold edgesG at hz
  split at hz
  ·injection hz with hz
   subst hz
   refine ⟨fun t ht => ?_, by simp only at hd ⊢; omega⟩
   rcases List.mem_append.1 ht with ht | ht
   ·exact hy.1 t ht
   ·rw [List.mem_singleton] at ht
    subst ht
    refine Nat.le_trans (facts_len _) ?_
    have h1 := left_unless (x := 3) (by decide) (decide (y.1.length < 400)) (popC y.2)
    rw [left_pop] at h1
    have := hy.2
    omega
  ·cases hz) (leftC s) ([], s) ⟨fun _ h => (by cases h), Nat.le_refl _⟩
 exact h.1
theorem parse28_small (s : ByteArray) : (∀ t ∈ (parse28 s).1.tiles, t.blocks.length ≤ 1099511627776) ∧ (∀ l ∈ (parse28 s).1.facts, l.length ≤ 1099511627776) := by
 unfold parse28
 split
 ·exact ⟨fun _ h => (by cases h), fun _ h => (by cases h)⟩
 ·rename_i hs
  split
  ·exact ⟨fun _ h => (by cases h), fun _ h => (by cases h)⟩
  ·have h0 := overT_len28 s (by omega)
   have h1 := tiles_small (overT s)
   have h2 := edges_small (tilesC ([], overT s)).2
   refine ⟨fun t ht => Nat.le_trans (h1.1 t ht) (by omega), fun l hl => Nat.le_trans (h2 l hl) (by have := h1.2; omega)⟩
theorem tile_own {w w' : World} {base : Nat} {S T : Nat → Prop} {A : Option Addr} {n c : Nat} {xs : List Tile} (h : OwnL (α := TileR) w base 35 S (.slice A n c) xs) (ho : Ovr w w' T) (hT : ∀ g, A = some ⟨g, 0, none⟩ → ¬ T g) {k : Nat} (hk : k < n) :
  ∃ g x A1 n1 c1, A = some ⟨g, 0, none⟩ ∧ g < w'.heap.size ∧ xs[k]? = some x ∧ x.blocks.length = n1 ∧ n1 ≤ c1 ∧ c1 ≤ 9223372036854775807 ∧ Room w' S 1 A1 c1 ∧ w'.cell? ⟨g, k * 3 + 2, none⟩ = some (.slice A1 n1 c1) := by
 obtain ⟨g, x, us, e, h1, h2, h3, h4, ⟨A1, n1, c1, rfl, _, _, hs, hr⟩, hc⟩ := h.at_own hk
 refine ⟨g, x, A1, n1, c1, e, Nat.lt_of_lt_of_le h2 ho.size, h4, hs.len, hs.2.1, by have := hs.2.2.1; unfold maxLen at this; omega, ho.room hr, ?_⟩
 exact (World.cell?_of_block (ho.block g h2 (hT g e))).trans (hc 2 _ rfl)
theorem facts_own {w w' : World} {base : Nat} {S T : Nat → Prop} {A : Option Addr} {n c : Nat} {xs : List (List Fact)} (h : OwnL (α := RowR Fact) w base 37 S (.slice A n c) xs) (ho : Ovr w w' T) (hT : ∀ g, A = some ⟨g, 0, none⟩ → ¬ T g) {k : Nat} (hk : k < n) :
  ∃ g, ∃ x : List Fact, ∃ A1 n1 c1, A = some ⟨g, 0, none⟩ ∧ g < w'.heap.size ∧ xs[k]? = some x ∧ x.length = n1 ∧ n1 ≤ c1 ∧ c1 ≤ 9223372036854775807 ∧ Room w' S 3 A1 c1 ∧ w'.cell? ⟨g, k, none⟩ = some (.slice A1 n1 c1) := by
 obtain ⟨g, x, us, e, h1, h2, h3, h4, ⟨A1, n1, c1, rfl, hs, hr⟩, hc⟩ := h.at_own hk
 refine ⟨g, x, A1, n1, c1, e, Nat.lt_of_lt_of_le h2 ho.size, h4, hs.len, hs.2.1, by have := hs.2.2.1; unfold maxLen at this; omega, ho.room hr, ?_⟩
 have h5 := (World.cell?_of_block (ho.block g h2 (hT g e))).trans (hc 0 _ rfl)
 simpa [Rep.size] using h5
set_option maxRecDepth 100000 in
set_option maxHeartbeats 16000000 in
theorem certParses_any (w : World) (hv : VarsP w) (s : ByteArray) (hs : s.size ≤ 140737488355328) : Calls Tryz.prog 3 #[.string s] w (RetX (.bool true) w) := by
 have HV := hide hv
 by_cases hbig : 6000 < s.size
 ·have HA := hide (awake28_any w hv)
  clear hv
  go_enter Tryz.func3, Tryz.ntmps3
  go_wp2_with (go_at_call 7; (with_reducible refine HA.out.mono ?_); rintro e _ ⟨rfl, u0, rfl⟩)
  go_ret
  exact RetX.b rfl ((Below.refl _ _).ext (Nat.le_refl _) u0)
 have HSM := hide (parse28_small s)
 have HPA := hide (fun (W : World) (hW : VarsP W) => parse28_any s W hW)
 have HPB := hide (fun (W : World) => dparse28_any s W)
 obtain ⟨⟨⟨tl, fl⟩, el, ec, ee⟩, hr⟩ : ∃ r, parse28 s = r := ⟨_, rfl⟩
 rw [hr] at HSM HPA HPB
 have HP1 := hide (HPA.out w hv)
 have hee : (ee != ee) = false := by simp
 have hel : (el != el) = false := by simp
 have hec : (ec != ec) = false := by simp
 clear hr hv
 go_enter Tryz.func3, Tryz.ntmps3
 go_wp2_with (go_at_call 8; (with_reducible refine HP1.out.mono ?_); rintro e W1 ⟨A, n, k, B, m, j, D, St, Sf, rfl, ho, hb⟩; dsimp only; have HO1 := hide ho; have HB1 := hide hb; clear ho hb; refine Hd.out ?_)
 clear HP1
 obtain ⟨C1, hC1⟩ : ∃ C, W1.heap.size = C := ⟨_, rfl⟩
 obtain ⟨W2, hW2⟩ : ∃ W', W1.alloc (.cells #[.slice A n k, .slice B m j] 26) = W' := ⟨_, rfl⟩
 have HR2 := hide (show W2.heap[C1]? = some (.cells #[.slice A n k, .slice B m j] 26 (0, 0)) from by rw [← hW2, ← hC1]; exact heap_alloc_new W1 _)
 have HB12 := hide (show Below W1.heap.size W1 W2 from by rw [← hW2]; exact (Below.refl _ _).alloc (Nat.le_refl _) _)
 have HSZ2 := hide (show W2.heap.size = C1 + 1 from by rw [← hW2, ← hC1]; simp)
 have HC1 := hide hC1; have HW2 := hide hW2
 have HP2 := hide (HPB.out W2)
 clear hC1 hW2
 refine hide ?_
 go_wp2_with (go_at_call 9; first | rw [HW2.out] | skip; (with_reducible refine HP2.out.mono ?_); rintro e W3 ⟨A2, n2, k2, B2, m2, j2, D2, St2, Sf2, rfl, ho, hb⟩; dsimp only; have HO2 := hide ho; have HB2 := hide hb; clear ho hb; refine Hd.out ?_)
 rw [HC1.out]
 have hn2 : n2 = n := by have h1 := HO1.out.nt; have h2 := HO2.out.nt; omega
 have hm2 : m2 = m := by have h1 := HO1.out.nf; have h2 := HO2.out.nf; omega
 subst hn2 hm2
 clear HP2
 obtain ⟨C2, hC2⟩ : ∃ C, W3.heap.size = C := ⟨_, rfl⟩
 obtain ⟨W4, hW4⟩ : ∃ W', W3.alloc (.cells #[.slice A2 n2 k2, .slice B2 m2 j2] 26) = W' := ⟨_, rfl⟩
 have HR4 := hide (show W4.heap[C2]? = some (.cells #[.slice A2 n2 k2, .slice B2 m2 j2] 26 (0, 0)) from by rw [← hW4, ← hC2]; exact heap_alloc_new W3 _)
 have HB34 := hide (show Below W3.heap.size W3 W4 from by rw [← hW4]; exact (Below.refl _ _).alloc (Nat.le_refl _) _)
 have HC2 := hide hC2; have HW4 := hide hW4
 have hz1 : C1 + 1 ≤ W3.heap.size := by have h1 := HB2.out.size; have h2 := HSZ2.out; omega
 have hz2 : C2 < W4.heap.size := (Array.getElem?_eq_some_iff.1 HR4.out).1
 have HZ1 := hide hz1
 have hbt : Sl W4 (fun b => C1 < b ∧ b < W3.heap.size) A2 n2 k2 tl := by
  have h := (HO2.out.ot.tiles.sl (S' := fun b => C1 < b) (fun b hb h => by
   have hz := HSZ2.out
   rcases h with h | h
   ·have h1 := (HO2.out.st b h).1
    show C1 < b
    omega
   ·show C1 < b
    omega)).more (S' := fun b => C1 < b ∧ b < W3.heap.size) (fun b hb h => ⟨h, hb⟩)
  exact h.belowAll HB34.out
 have hbf : Sl W4 (fun b => C1 < b ∧ b < W3.heap.size) B2 m2 j2 fl := by
  have h := (HO2.out.of.rows.sl (S' := fun b => C1 < b) (fun b hb h => by
   have hz := HSZ2.out
   rcases h with h | h
   ·have h1 := (HO2.out.sf b h).1
    show C1 < b
    omega
   ·show C1 < b
    omega)).more (S' := fun b => C1 < b ∧ b < W3.heap.size) (fun b hb h => ⟨h, hb⟩)
  exact h.belowAll HB34.out
 have HBT := hide hbt; have HBF := hide hbf
 have HR14 := hide (show W4.heap[C1]? = some (.cells #[.slice A n2 k, .slice B m2 j] 26 (0, 0)) from by rw [HB34.out.block C1 (by omega), HB2.out.block C1 (by have := HSZ2.out; omega)]; exact HR2.out)
 have a0 : W4.cell? ⟨C1, 0, none⟩ = some (.slice A n2 k) := cell_of_row W4 C1 _ _ _ (0, 0) HR14.out
 have a1 : W4.cell? ⟨C1, 1, none⟩ = some (.slice B m2 j) := cell_of_row W4 C1 _ _ _ (0, 0) HR14.out
 have b0 : W4.cell? ⟨C2, 0, none⟩ = some (.slice A2 n2 k2) := cell_of_row W4 C2 _ _ _ (0, 0) HR4.out
 have b1 : W4.cell? ⟨C2, 1, none⟩ = some (.slice B2 m2 j2) := cell_of_row W4 C2 _ _ _ (0, 0) HR4.out
 have l1 : C1 < W4.heap.size := (Array.getElem?_eq_some_iff.1 HR14.out).1
 have HB14 := hide (show Below C1 W1 W4 from by
  have h1 := HB12.out; have h2 := HB2.out; have h3 := HB34.out; have hz := HSZ2.out; have hc := HC1.out
  rw [hc] at h1
  exact h1.trans ((h2.mono (by omega)).trans (h3.mono (by omega))))
 have HAT := hide (show OwnL (α := TileR) W4 w.heap.size 35 St (.slice A n2 k) tl from HO1.out.ot.keep (by have := HB14.out.size; have := HC1.out; omega) (fun b hb _ => HB14.out.block b (by have h1 := (HO1.out.st b hb).2; have h2 := HO1.out.d; have := HC1.out; omega)) fun g hg => HB14.out.block g (by have := (HO1.out.ot.below_ g hg).2; have := HC1.out; omega))
 have HAF := hide (show OwnL (α := RowR Fact) W4 w.heap.size 37 Sf (.slice B m2 j) fl from HO1.out.of.keep (by have := HB14.out.size; have := HC1.out; omega) (fun b hb _ => HB14.out.block b (by have h1 := (HO1.out.sf b hb).2.2; have := HC1.out; omega)) fun g hg => HB14.out.block g (by have := (HO1.out.of.below_ g hg).2; have := HC1.out; omega))
 have HSC := hide (sameCert28_any W4 _ _ _ _ A A2 B B2 n2 k k2 m2 j j2 ⟨tl, fl⟩ (HAT.out.tiles.sl (S' := fun _ => True) fun _ _ _ => trivial) hbt (HAF.out.rows.sl (S' := fun _ => True) fun _ _ _ => trivial) hbf)
 have HST := hide (show ∀ b, St b → w.heap.size ≤ b ∧ b < C1 from fun b hb => by have h1 := HO1.out.st b hb; have h2 := HO1.out.d; have := HC1.out; omega)
 have HSF := hide (show ∀ b, Sf b → w.heap.size ≤ b ∧ b < C1 from fun b hb => by have h1 := HO1.out.sf b hb; have := HC1.out; omega)
 have HTB := hide HO1.out.tb; have HFB := hide HO1.out.fb; have HSTD := hide HO1.out.st; have HSFD := hide HO1.out.sf
 have HBW4 := hide (show Below w.heap.size w W4 from HB1.out.trans (HB14.out.mono (by have := HB1.out.size; have := HC1.out; omega)))
 have HFNT := hide (show ∀ g, (Value.slice B m2 j).ownBlock = some g → ¬ Sf g from fun g hg => by obtain ⟨_, _, _, h3⟩ := HO1.out.of; exact h3 g hg)
 have HTNT := hide (show ∀ g, (Value.slice A n2 k).ownBlock = some g → ¬ St g from fun g hg => by obtain ⟨_, _, _, h3⟩ := HO1.out.ot; exact h3 g hg)
 clear hbt hbf HO1 HO2 HB1 HB12 HB2 HB34 HR2 hz1
 refine hide ?_
 go_wp2_with (go_at_call 10; (with_reducible refine HSC.out.mono ?_); rintro e W5 ⟨rfl, u5, hu5⟩; have HU5 := hide hu5; clear hu5; refine Hd.out ?_)
 have hn := HBT.out.nle
 have hm := HBF.out.nle
 have HAT5 := hide (show OwnL (α := TileR) W5 w.heap.size 35 St (.slice A n2 k) tl from HU5.out ▸ HAT.out.ext u5)
 have HAF5 := hide (show OwnL (α := RowR Fact) W5 w.heap.size 37 Sf (.slice B m2 j) fl from HU5.out ▸ HAF.out.ext u5)
 have HBT5 := hide (show Sl W5 (fun b => C1 < b ∧ b < W3.heap.size) A2 n2 k2 tl from HU5.out ▸ HBT.out.ext u5)
 have HBF5 := hide (show Sl W5 (fun b => C1 < b ∧ b < W3.heap.size) B2 m2 j2 fl from HU5.out ▸ HBF.out.ext u5)
 have HR15 := hide (show W5.heap[C1]? = some (.cells #[.slice A n2 k, .slice B m2 j] 26 (0, 0)) from by rw [HU5.out, ext_block W4 u5 C1 l1]; exact HR14.out)
 have HR45 := hide (show W5.heap[C2]? = some (.cells #[.slice A2 n2 k2, .slice B2 m2 j2] 26 (0, 0)) from by rw [HU5.out, ext_block W4 u5 C2 hz2]; exact HR4.out)
 have HBW5 := hide (show Below w.heap.size w W5 from HU5.out ▸ HBW4.out.ext HBW4.out.size u5)
 have l5 : C1 < W5.heap.size := (Array.getElem?_eq_some_iff.1 HR15.out).1
 have l6 : C2 < W5.heap.size := (Array.getElem?_eq_some_iff.1 HR45.out).1
 have hC12 : C1 < C2 := by have := HZ1.out; omega
 have HL5 := hide l5; have HL6 := hide l6
 have HCC := hide hC12
 have HBSZ := hide hC2
 clear a0 a1 b0 b1 l1 l5 l6 hz2 hC2 hW4 hC12 HAT HAF HBT HBF HR14 HR4 HBW4 HB14 HSC HU5
 refine hide ?_
 go_wp2_with fail
 go_loopw [11] (fun i wr => ∃ k1 : Nat, k1 ≤ n2 ∧ i = .int .i64 k1 ∧ Ovr W5 wr St) (fun i _ => n2 - (intOf i).toNat)
 case atStart => exact ⟨0, Nat.zero_le _, rfl, Ovr.refl _ _⟩
 case round =>
  obtain ⟨k1, hk, rfl, hov⟩ := hrel
  have HOV := hide hov
  clear hov
  have hr1 : wr.heap[C1]? = some (.cells #[.slice A n2 k, .slice B m2 j] 26 (0, 0)) := (HOV.out.block C1 HL5.out (fun e => by have := (HST.out C1 e).2; omega)).trans HR15.out
  have a0 : wr.cell? ⟨C1, 0, none⟩ = some (.slice A n2 k) := cell_of_row wr C1 _ _ _ (0, 0) hr1
  have a1 : wr.cell? ⟨C1, 1, none⟩ = some (.slice B m2 j) := cell_of_row wr C1 _ _ _ (0, 0) hr1
  have l1 : C1 < wr.heap.size := (Array.getElem?_eq_some_iff.1 hr1).1
  have HRR := hide hr1
  clear hr1
  by_cases hlt : k1 < n2
  ·obtain ⟨g, x, A1, n1, c1, hA, hg, hx, hxl, hnc, hcm, hroom, hcell⟩ := tile_own HAT5.out HOV.out (fun g e => HTNT.out g (by rw [e]; rfl)) hlt
   have hki : (k1 : Int) < n2 := by omega
   have HOI := hide (overInts28_any wr St A1 n1 c1 hroom hnc hcm (hxl ▸ HSM.out.1 x (mem_at hx)))
   subst hA
   clear hx hxl hnc hcm hroom
   go_wp2_with (first | (go_at_call 11; (with_reducible refine HOI.out.mono ?_); rintro e W' ⟨rfl, hov⟩; have HO2 := hide (HOV.out.trans hov); clear hov))
   go_roundw
   case rel => exact ⟨k1 + 1, by omega, by go_num, HO2.out⟩
   case measure => simp [intOf]; omega
  ·have hki : decide ((k1 : Int) < n2) = false := by simp; omega
   go_wp2_with fail
   have HOV1 := hide (HOV.out.mono (T' := fun b => St b ∨ Sf b) fun b h => .inl h)
   clear a0 a1 l1 HRR HOV hlt hki hk
   go_loopw [12] (fun i wr => ∃ k1 : Nat, k1 ≤ m2 ∧ i = .int .i64 k1 ∧ Ovr W5 wr (fun b => St b ∨ Sf b)) (fun i _ => m2 - (intOf i).toNat)
   case atStart => exact ⟨0, Nat.zero_le _, rfl, HOV1.out⟩
   case round =>
    obtain ⟨q1, hk, rfl, hov⟩ := hrel
    have HOV := hide hov
    clear hov HOV1
    have hr1 : wr.heap[C1]? = some (.cells #[.slice A n2 k, .slice B m2 j] 26 (0, 0)) := (HOV.out.block C1 HL5.out (fun e => by rcases e with e | e; have := (HST.out C1 e).2; omega; have := (HSF.out C1 e).2; omega)).trans HR15.out
    have a0 : wr.cell? ⟨C1, 0, none⟩ = some (.slice A n2 k) := cell_of_row wr C1 _ _ _ (0, 0) hr1
    have a1 : wr.cell? ⟨C1, 1, none⟩ = some (.slice B m2 j) := cell_of_row wr C1 _ _ _ (0, 0) hr1
    have l1 : C1 < wr.heap.size := (Array.getElem?_eq_some_iff.1 hr1).1
    clear hr1
    by_cases hlt : q1 < m2
    ·obtain ⟨g, x, A1, n1, c1, hA, hg, hx, hxl, hnc, hcm, hroom, hcell⟩ := facts_own HAF5.out HOV.out (fun g e h => by
      have hg : (Value.slice B m2 j).ownBlock = some g := by rw [e]; rfl
      rcases h with h | h
      ·have h1 := (HSTD.out g h).2; have h2 := HFB.out g hg; omega
      ·exact HFNT.out g hg h) hlt
     have hki : (q1 : Int) < m2 := by omega
     have HOI := hide (overFacts28_any wr Sf A1 n1 c1 hroom hnc hcm (hxl ▸ HSM.out.2 x (mem_at hx)))
     subst hA
     clear hx hxl hnc hcm hroom
     go_wp2_with (first | (go_at_call 12; (with_reducible refine HOI.out.mono ?_); rintro e W' ⟨rfl, hov⟩; have HO2 := hide (HOV.out.trans (hov.mono fun b h => .inr h)); clear hov))
     go_roundw
     case rel => exact ⟨q1 + 1, by omega, by go_num, HO2.out⟩
     case measure => simp [intOf]; omega
    ·have hki : decide ((q1 : Int) < m2) = false := by simp; omega
     have HBWr := hide (show Below w.heap.size w wr from HBW5.out.trans (HOV.out.below HBW5.out.size (fun b h => by rcases h with h | h; exact (HST.out b h).1; exact (HSF.out b h).1)))
     have HVr := hide (HV.out.below HBWr.out HV.out.v.sz)
     have HP3 := hide (HPA.out wr HVr.out)
     clear hk
     go_wp2_with (go_at_call 8; refine Hd.out ?_)
     refine hide ?_
     (with_reducible refine HP3.out.mono ?_); rintro e W6 ⟨A3, n3, k3, B3, m3, j3, D3, St3, Sf3, rfl, ho, hb⟩; dsimp only; have HO3 := hide ho; have HB3 := hide hb; clear ho hb; refine Hd.out ?_
     have hn3 : n3 = n2 := by have h1 := HO3.out.nt; have h2 := HBT5.out.len; show n3 = n2; exact h1.symm.trans h2
     have hm3 : m3 = m2 := by have h1 := HO3.out.nf; have h2 := HBF5.out.len; exact h1.symm.trans h2
     subst hn3 hm3
     obtain ⟨C3, hC3⟩ : ∃ C, W6.heap.size = C := ⟨_, rfl⟩
     obtain ⟨W7, hW7⟩ : ∃ W', W6.alloc (.cells #[.slice A3 n3 k3, .slice B3 m3 j3] 26) = W' := ⟨_, rfl⟩
     have hr7 : W7.heap[C3]? = some (.cells #[.slice A3 n3 k3, .slice B3 m3 j3] 26 (0, 0)) := by rw [← hW7, ← hC3]; exact heap_alloc_new W6 _
     have HB67 := hide (show Below W6.heap.size W6 W7 from by rw [← hW7]; exact (Below.refl _ _).alloc (Nat.le_refl _) _)
     have hkp : ∀ b, C1 < b → b < W5.heap.size → W7.heap[b]? = W5.heap[b]? := fun b h1 h2 => by
      have h3 := HOV.out.size; have h4 := HB3.out.size
      rw [HB67.out.block b (by omega), HB3.out.block b (by omega)]
      exact HOV.out.block b h2 (fun e => by rcases e with e | e; have := (HST.out b e).2; omega; have := (HSF.out b e).2; omega)
     have hs57 : W5.heap.size ≤ W7.heap.size := by have h3 := HOV.out.size; have h4 := HB3.out.size; have h5 := HB67.out.size; omega
     have hr47 : W7.heap[C2]? = some (.cells #[.slice A2 n3 k2, .slice B2 m3 j2] 26 (0, 0)) := (hkp C2 HCC.out HL6.out).trans HR45.out
     have b0 : W7.cell? ⟨C2, 0, none⟩ = some (.slice A2 n3 k2) := cell_of_row W7 C2 _ _ _ (0, 0) hr47
     have b1 : W7.cell? ⟨C2, 1, none⟩ = some (.slice B2 m3 j2) := cell_of_row W7 C2 _ _ _ (0, 0) hr47
     have d0 : W7.cell? ⟨C3, 0, none⟩ = some (.slice A3 n3 k3) := cell_of_row W7 C3 _ _ _ (0, 0) hr7
     have d1 : W7.cell? ⟨C3, 1, none⟩ = some (.slice B3 m3 j3) := cell_of_row W7 C3 _ _ _ (0, 0) hr7
     have l2 : C2 < W7.heap.size := (Array.getElem?_eq_some_iff.1 hr47).1
     have l3 : C3 < W7.heap.size := (Array.getElem?_eq_some_iff.1 hr7).1
     have HSC := hide (sameCert28_any W7 _ _ _ _ A3 A2 B3 B2 n3 k3 k2 m3 j3 j2 ⟨tl, fl⟩ ((HO3.out.ot.tiles.sl (S' := fun _ => True) fun _ _ _ => trivial).belowAll HB67.out) (HBT5.out.keep hs57 fun b hb hl => hkp b hb.1 hl) ((HO3.out.of.rows.sl (S' := fun _ => True) fun _ _ _ => trivial).belowAll HB67.out) (HBF5.out.keep hs57 fun b hb hl => hkp b hb.1 hl))
     have HB7 := hide (show Below w.heap.size w W7 from (HBWr.out.trans (HB3.out.mono HBWr.out.size)).trans (HB67.out.mono (by have := HBWr.out.size; have := HB3.out.size; omega)))
     have HAW := hide (fun u : Ext => awake28_any (W7.ext u) (HV.out.below (HB7.out.ext HB7.out.size u) HV.out.v.sz))
     clear hr7 hr47 hkp hs57 a0 a1 l1
     refine hide ?_
     go_wp2_with (first | (go_at_call 10; (with_reducible refine HSC.out.mono ?_); rintro e _ ⟨rfl, u7, rfl⟩) | (go_at_call 7; (with_reducible refine (HAW.out _).mono ?_); rintro e _ ⟨rfl, u8, rfl⟩))
     go_ret
     exact RetX.b rfl ((HB7.out.ext HB7.out.size u7).ext (by rw [size_ext]; have := HB7.out.size; omega) u8)
end Go.Proofs.YtppkanniefignaaGreatDoor
