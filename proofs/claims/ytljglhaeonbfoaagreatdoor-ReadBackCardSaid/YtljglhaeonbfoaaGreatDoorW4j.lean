/- law04: walks: a block is read. -/
import Derived.Test.YtljglhaeonbfoaaGreatDoorG35
import Derived.Deep.DeepCutAuto
set_option linter.unusedSimpArgs false
set_option linter.unusedVariables false
namespace Go.Proofs.YtljglhaeonbfoaaGreatDoor
open Go.RowKit
theorem XA4.fzs {w0 W : World} {R M c : Nat} {S : Nat → Prop} {T : TypeId} {cs : Array Value} {s : Cur} (h : XA4 w0 W R M c S T cs s) : W.frozen? ⟨M, 0, none⟩ = false ∧ W.frozen? ⟨M, 1, none⟩ = false ∧ W.frozen? ⟨M, 2, none⟩ = false ∧ W.frozen? ⟨M, 3, none⟩ = false ∧ W.frozen? ⟨M, 4, none⟩ = false ∧ M < W.heap.size ∧ R < W.heap.size ∧ W.cell? ⟨R, 0, none⟩ = some (.pointer (some ⟨c, 0, none⟩)) := ⟨h.fz 0, h.fz 1, h.fz 2, h.fz 3, h.fz 4, h.ml, h.ra.rl, h.ra.k0⟩
theorem OwnL.only4 {α : Type} [Rep α] {c B : Nat} {W W' : World} {T : TypeId} {v : Value} {l : List α} (h : OwnL W B T (fun _ => False) v l) (hon : Only c W W') (hc : c < B) : OwnL W' B T (fun _ => False) v l :=
 h.keep hon.size (fun _ hf => hf.elim) fun g hg => hon.block g (h.below_ g hg).2 (by have := (h.below_ g hg).1; omega)
set_option maxRecDepth 100000 in
set_option maxHeartbeats 32000000 in
theorem whole_any (w : World) (S : Nat → Prop) (c : Nat) (s : Cur) (n : Nat) (hn : n ≤ 1099511627780) (h : Rd4 w S c s) : Calls Tryz.prog 44 #[rd4 c, .int .i64 n] w (WholeP S c w (wholeC false n s)) := by
 obtain ⟨i0, hi, hz, hz1, hz2⟩ := info_parts info_Ins4
 have HI0 := hide hi; have HZ := hide hz; have HZ1 := hide hz1; have HZ2 := hide hz2
 clear hi hz hz1 hz2
 have HNS := hide h.cur.nS
 obtain ⟨R, hR⟩ : ∃ R, w.heap.size = R := ⟨_, rfl⟩
 obtain ⟨S1, hS1⟩ : ∃ S1 : Nat → Prop, S1 = fun b => S b ∧ b < R := ⟨_, rfl⟩
 obtain ⟨W1, hW1⟩ : ∃ W1, w.alloc (.cells #[.pointer (some ⟨c, 0, none⟩)] 77) = W1 := ⟨_, rfl⟩
 have HT1 := hide (show RA4 w W1 R c S1 s from by rw [hS1, ← hW1, ← hR]; exact RA4.start h)
 have HS1 := hide hS1
 have HRQ := hide hR
 obtain ⟨M, hM⟩ : ∃ M, W1.heap.size = M := ⟨_, rfl⟩
 obtain ⟨W2, hW2⟩ : ∃ W2, W1.alloc (.cells #[.slice none 0 0, .int .i64 0, .int .i64 0, .int .i64 0, .int .i64 0] 52) = W2 := ⟨_, rfl⟩
 have HW2 := hide (show WA4 w W2 R M c S1 (.slice none 0 0) zeroTerm [] (fun _ => False) s from by
  rw [← hW2, ← hM]; exact ⟨XA4.start HT1.out _ _, OwnL.nil_ _ _ _ _, fun _ h => h.elim⟩)
 obtain ⟨s1, hs1⟩ : ∃ s1, (if n = 64 then failC 3 s else s) = s1 := ⟨_, rfl⟩
 obtain ⟨s2, hs2⟩ : ∃ s2, keyC tBlock s1 = s2 := ⟨_, rfl⟩
 obtain ⟨q, hq⟩ : ∃ q, numC n n s2 = q := ⟨_, rfl⟩
 obtain ⟨X, hX⟩ : ∃ X, blkC false ((⟨[], zeroTerm⟩, false), endC q.2) = X := ⟨_, rfl⟩
 have hwh : wholeC false n s = (X.1.1, X.2) := by
  unfold wholeC headB
  rw [hs1, hs2, hq, hX]
 rw [hwh]
 have HXQ := hide hX
 have HS1Q := hide hs1; have HS2Q := hide hs2; have HQQ := hide hq
 obtain ⟨r0, rl, ml⟩ : W2.cell? ⟨R, 0, none⟩ = some (.pointer (some ⟨c, 0, none⟩)) ∧ R < W2.heap.size ∧ M < W2.heap.size := ⟨HW2.out.xa.ra.k0, HW2.out.xa.ra.rl, HW2.out.xa.ml⟩
 have HMQ := hide hM
 obtain ⟨b9, hb9⟩ : ∃ b, ((n : Int) == 64) = b := ⟨_, rfl⟩
 have HB9 := hide hb9
 clear h hS1 hX hwh hs1 hs2 hq HT1
 go_enter Tryz.func44, Tryz.ntmps44
 go_upto_if 9 with (fail)
 go_cut [] from 10 to 12 (fun wc => WA4 w wc R M c S1 (.slice none 0 0) zeroTerm [] (fun _ => False) s1)
 case first =>
  cases b9 with
  | true =>
   have h64 : n = 64 := by have := HB9.out; simp at this; omega
   have HF := hide (show Calls Tryz.prog 40 #[.pointer (some ⟨c, 0, none⟩), .int .i64 3] W2 (CurP S1 c W2 s1 (.tuple #[])) from by have h := cFail HW2.out.xa.ra.rd.cur 3; rw [← HS1Q.out, if_pos h64]; exact h)
   have HSF := hide (show SufX s s1 from by rw [← HS1Q.out, if_pos h64]; exact sfx_fail _ _)
   clear h64
   go_wp2_with (first | (go_at_call 40; (with_reducible refine HF.out.mono ?_); rintro e V ⟨rfl, hat, hon⟩; have HW3 := hide (HW2.out.call hon hat HSF.out); clear hat hon))
   go_meet
   exact HW3.out
  | false =>
   have h64 : ¬ n = 64 := by have := HB9.out; simp at this; omega
   have HW3 := hide (show WA4 w W2 R M c S1 (.slice none 0 0) zeroTerm [] (fun _ => False) s1 from by rw [← HS1Q.out, if_neg h64]; exact HW2.out)
   clear h64
   go_wp2_with fail
   go_meet
   exact HW3.out
 case rest =>
  have HW3 := hide hcut
  obtain ⟨Wa, hWa⟩ : ∃ W, W = wc := ⟨_, rfl⟩
  subst hWa
  clear hcut HW2 r0 rl ml hW2 hW1
  obtain ⟨r0, rl, ml⟩ : Wa.cell? ⟨R, 0, none⟩ = some (.pointer (some ⟨c, 0, none⟩)) ∧ R < Wa.heap.size ∧ M < Wa.heap.size := ⟨HW3.out.xa.ra.k0, HW3.out.xa.ra.rl, HW3.out.xa.ml⟩
  obtain ⟨b1, hb1⟩ : ∃ b, isC (.nm tBlock) s1 = b := ⟨_, rfl⟩
  have HK := hide (show Calls Tryz.prog 39 #[.pointer (some ⟨c, 0, none⟩), .string ⟨#[98, 108, 111, 99, 107]⟩] Wa (CurP S1 c Wa (overC b1 s1) (.bool b1)) from by have h := cKey HW3.out.xa.ra.rd.cur tBlock; rw [hb1] at h; exact h)
  have HB1 := hide hb1
  clear hb1
  go_upto_if 16 with (first | (go_at_call 39; (with_reducible refine HK.out.mono ?_); rintro e V1 ⟨rfl, hat, hon⟩; have HW4 := hide (HW3.out.call hon hat (sfx_over b1 s1)); clear hat hon r0 rl ml))
  obtain ⟨r0, rl, ml⟩ : V1.cell? ⟨R, 0, none⟩ = some (.pointer (some ⟨c, 0, none⟩)) ∧ R < V1.heap.size ∧ M < V1.heap.size := ⟨HW4.out.xa.ra.k0, HW4.out.xa.ra.rl, HW4.out.xa.ml⟩
  clear HW3 HK
  go_cut [] from 17 to 19 (fun wc => WA4 w wc R M c S1 (.slice none 0 0) zeroTerm [] (fun _ => False) s2)
  case first =>
   cases b1 with
   | true =>
    have HW5 := hide (show WA4 w V1 R M c S1 (.slice none 0 0) zeroTerm [] (fun _ => False) s2 from by rw [← HS2Q.out]; unfold keyC; rw [if_pos HB1.out]; exact HW4.out)
    go_wp2_with fail
    go_meet
    exact HW5.out
   | false =>
    have HF := hide (show Calls Tryz.prog 40 #[.pointer (some ⟨c, 0, none⟩), .int .i64 7] V1 (CurP S1 c V1 s2 (.tuple #[])) from by have h := cFail HW4.out.xa.ra.rd.cur 7; rw [← HS2Q.out]; unfold keyC; rw [if_neg (by rw [HB1.out]; decide)]; exact h)
    have HSF := hide (show SufX (overC false s1) s2 from by rw [← HS2Q.out]; unfold keyC; rw [if_neg (by rw [HB1.out]; decide)]; exact sfx_fail _ _)
    go_wp2_with (first | (go_at_call 40; (with_reducible refine HF.out.mono ?_); rintro e V ⟨rfl, hat, hon⟩; have HW5 := hide (HW4.out.call hon hat HSF.out); clear hat hon))
    go_meet
    exact HW5.out
  case rest =>
   have HW5 := hide hcut
   obtain ⟨Wb, hWb⟩ : ∃ W, W = wc := ⟨_, rfl⟩
   subst hWb
   clear hcut HW4 r0 rl ml HB1
   obtain ⟨r0, rl, ml⟩ : Wb.cell? ⟨R, 0, none⟩ = some (.pointer (some ⟨c, 0, none⟩)) ∧ R < Wb.heap.size ∧ M < Wb.heap.size := ⟨HW5.out.xa.ra.k0, HW5.out.xa.ra.rl, HW5.out.xa.ml⟩
   have HN := hide (show Calls Tryz.prog 97 #[.pointer (some ⟨c, 0, none⟩), .int .i64 n, .int .i64 n] Wb (CurP S1 c Wb q.2 (.int .i64 q.1)) from by have h := cNum HW5.out.xa.ra.rd.cur n n; rw [HQQ.out] at h; exact h)
   have HSN := hide (show SufX s2 q.2 from HQQ.out ▸ sfx_num _ _ _)
   go_wp2_with (first | (go_at_call 97; (with_reducible refine HN.out.mono ?_); rintro e V2 ⟨rfl, hat, hon⟩; have HW6 := hide (HW5.out.call hon hat HSN.out); clear hat hon r0 rl ml; obtain ⟨r0, rl, ml⟩ : V2.cell? ⟨R, 0, none⟩ = some (.pointer (some ⟨c, 0, none⟩)) ∧ R < V2.heap.size ∧ M < V2.heap.size := ⟨HW6.out.xa.ra.k0, HW6.out.xa.ra.rl, HW6.out.xa.ml⟩) | (go_at_call 42; (with_reducible refine (cEnd HW6.out.xa.ra.rd.cur).mono ?_); rintro e V3 ⟨rfl, hat, hon⟩; have HW7 := hide (HW6.out.call hon hat (sfx_end _)); clear hat hon))
   clear r0 rl ml HW5 HW6 HN
   go_loopw [] (fun wr => ∃ (A : Option Addr) (k : Nat) (l : List Ins) (St : Nat → Prop) (s' : Cur), WA4 w wr R M c S1 (.slice A l.length k) zeroTerm l St s' ∧ blkC false ((⟨l, zeroTerm⟩, false), s') = X ∧ l.length + aliveC s' ≤ 1099511627780) (fun wr => aliveM c wr)
   case atStart => exact ⟨none, 0, [], _, endC q.2, HW7.out, HXQ.out, by have := HW7.out.xa.ra.rd.wd.alive; simp only [List.length_nil]; omega⟩
   case round =>
    obtain ⟨A, k, l, St, s', ht, hx, hll⟩ := hrel
    have HT := hide ht; have HXX := hide hx; have HLL := hide hll
    have HLE := hide ht.xa.ra.rd.cur.aliveM_
    have HAB := hide (able_any ht.xa.ra.rd.cur)
    obtain ⟨m0, m1, m2, m3, m4⟩ := cells5 ht.xa.row
    obtain ⟨f0, f1, f2, f3, f4, ml, rl, r0⟩ := ht.xa.fzs
    clear ht hx hll HW7
    obtain ⟨eb, heb⟩ : ∃ b, (s'.e == 0) = b := ⟨_, rfl⟩
    rw [heb] at HAB
    cases eb with
    | false =>
     have HE := hide (show X = ((⟨l, zeroTerm⟩, false), s') from by
      rw [← HXX.out]
      exact blkC_stop (by unfold blkG; rw [if_pos (.inr (by simpa using heb))]))
     clear heb
     go_wp2_with (first | (go_at_call 98; (with_reducible refine HAB.out.mono ?_); rintro e _ ⟨rfl, u, rfl⟩))
     have HZW := hide (HT.out.again.ext u)
     refine bodyPost_ret (results_cell_row Tryz.results44 _ _ M _ _ (0, 0) _ rfl HZW.out.xa.row Tryz.underlying52 rfl (by kernel_rfl)) rfl ?_
     rw [HE.out]
     exact ⟨A, l.length, k, St, rfl, HZW.out.own.lower28 (by have := HZW.out.xa.o2; have := HRQ.out; omega), fun b h => by have h1 := HZW.out.st b h; have := HZW.out.xa.o2; have := HRQ.out; omega, ⟨iI 0 rfl, iI 0 rfl, iI 0 rfl, iI 0 rfl⟩, HZW.out.xa.ra.rd.cur.moreS (fun b _ h => by rw [HS1.out] at h; exact h.1) HNS.out, HZW.out.xa.ra.only⟩
    | true =>
     have hse : s'.e = 0 := by simpa using heb
     obtain ⟨r, hr⟩ : ∃ r, oneC false s' = r := ⟨_, rfl⟩
     have hin := one_in04i false s'
     have HONE := hide (fun (W : World) (h : Rd4 W S1 c s') => show Calls Tryz.prog 99 #[rd4 c] W (LnP S1 c W r) from hr ▸ one_any W S1 c s' h)
     have HSR := hide (show SufX s' r.2 from hr ▸ sfx_one false s')
     rw [hr] at hin
     obtain ⟨ln, sr⟩ := r
     have HB := hide (show wr.heap.size = wr.heap.size from rfl)
     cases ln with
     | term t =>
      have hin : TermIn t := hin
      have HIN := hide hin
      have hgo : blkG false ((⟨l, zeroTerm⟩, false), s') = some ((⟨l, t⟩, true), endC sr) := by
       unfold blkG
       rw [if_neg (by rintro (h | h); cases h; exact h hse)]
       simp only
       rw [hr]
      have HE := hide (show X = ((⟨l, t⟩, true), endC sr) from by
       rw [← HXX.out, blkC_go hgo]
       exact blkC_stop (by unfold blkG; rw [if_pos (.inl rfl)]))
      clear heb hse hr hin hgo
      go_wp2_with (first | (simp only [as_ins4_no 50 (by decide)]) | (simp only [as_term4]) | (go_at_call 98; (with_reducible refine HAB.out.mono ?_); rintro e _ ⟨rfl, u, rfl⟩) | (go_at_call 99; (with_reducible refine (HONE.out _ (HT.out.xa.ra.rd.ext _)).mono ?_); rintro e V ⟨_, rfl, rfl, hat, hon⟩; have HWV := hide ((HT.out.ext u).call hon hat HSR.out); clear hat hon m0 m1 m2 m3 m4 f0 f1 f2 f3 f4 ml rl r0; obtain ⟨f0, f1, f2, f3, f4, ml, rl, r0⟩ := HWV.out.xa.fzs) | (go_at_call 42; (with_reducible refine (cEnd (HWV.out.alloc _).xa.ra.rd.cur).mono ?_); rintro e V2 ⟨rfl, hat, hon⟩; have HW9 := hide ((HWV.out.alloc _).call hon hat (sfx_end _)); clear hat hon f0 f1 f2 f3 f4 ml rl r0; obtain ⟨m0, m1, m2, m3, m4⟩ := cells5 HW9.out.xa.row; obtain ⟨f0, f1, f2, f3, f4, ml, rl, r0⟩ := HW9.out.xa.fzs; obtain ⟨Y, hY⟩ : ∃ Y, (((V2.setCell ⟨M, 1, none⟩ (.int .i64 t.kind)).setCell ⟨M, 2, none⟩ (.int .i64 t.a)).setCell ⟨M, 3, none⟩ (.int .i64 t.to0)).setCell ⟨M, 4, none⟩ (.int .i64 t.to1) = Y := ⟨_, rfl⟩; have HY := hide (show WA4 w Y R M c S1 (.slice A l.length k) t l St (endC sr) from hY ▸ HW9.out.term t); obtain ⟨z0, z1, z2, z3, z4⟩ := cells5 HY.out.xa.row; obtain ⟨g0, g1, g2, g3, g4, zl, yl, y0⟩ := HY.out.xa.fzs))
      have HZW := hide HY.out.again
      refine bodyPost_ret (results_cell_row Tryz.results44 _ _ M _ _ (0, 0) _ rfl HZW.out.xa.row Tryz.underlying52 rfl (by kernel_rfl)) rfl ?_
      rw [HE.out]
      exact ⟨A, l.length, k, St, rfl, HZW.out.own.lower28 (by have := HZW.out.xa.o2; have := HRQ.out; omega), fun b h => by have h1 := HZW.out.st b h; have := HZW.out.xa.o2; have := HRQ.out; omega, HIN.out, HZW.out.xa.ra.rd.cur.moreS (fun b _ h => by rw [HS1.out] at h; exact h.1) HNS.out, HZW.out.xa.ra.only⟩
     | ins i =>
      have hin : InsIn i := hin
      have HIN := hide hin
      obtain ⟨s3, hs3⟩ : ∃ s3, (if l.length = 64 then failC 3 sr else sr) = s3 := ⟨_, rfl⟩
      have hgo : blkG false ((⟨l, zeroTerm⟩, false), s') = some ((⟨l ++ [i], zeroTerm⟩, false), endC s3) := by
       unfold blkG
       rw [if_neg (by rintro (h | h); cases h; exact h hse)]
       simp only
       rw [hr]
       simp only
       rw [hs3]
      have HGO := hide (show blkC false ((⟨l ++ [i], zeroTerm⟩, false), endC s3) = X from by rw [← HXX.out, blkC_go hgo])
      have HDEC := hide (show aliveC (endC s3) < aliveC s' from blkG_dec _ _ hgo)
      have HS3 := hide hs3
      clear heb hse hr hin hgo hs3
      obtain ⟨b10, hb10⟩ : ∃ b, ((l.length : Int) == 64) = b := ⟨_, rfl⟩
      have HB10 := hide hb10
      cases b10 with
      | true =>
       have h64 : l.length = 64 := by have := HB10.out; simp at this; omega
       have h3 : failC 3 sr = s3 := by rw [← HS3.out, if_pos h64]
       subst h3
       clear h64
       go_wp2_with (first | (simp only [as_ins4]) | (go_at_call 98; (with_reducible refine HAB.out.mono ?_); rintro e _ ⟨rfl, u, rfl⟩) | (go_at_call 99; (with_reducible refine (HONE.out _ (HT.out.xa.ra.rd.ext _)).mono ?_); rintro e V ⟨_, rfl, ⟨A2, n2, k2, rfl, ho⟩, hat, hon⟩; have HWV := hide ((HT.out.ext u).call hon hat HSR.out); obtain ⟨I, hI⟩ : ∃ I, V.heap.size = I := ⟨_, rfl⟩; obtain ⟨Va, hVa⟩ : ∃ Va, V.alloc (.cells #[.int .i64 i.op, .int .i64 i.dst, .int .i64 i.a, .int .i64 i.b, .int .i64 i.imm, .int .i64 i.callee, .slice A2 n2 k2, .int .i64 i.many] 45) = Va := ⟨_, rfl⟩; have HSZ := hide (show wr.heap.size ≤ I ∧ c < wr.heap.size from ⟨(by have h7 := hon.size; rw [size_ext] at h7; omega), HT.out.xa.ra.cl⟩); have HWa := hide (show WA4 w Va R M c S1 (.slice A l.length k) zeroTerm l St sr from hVa ▸ HWV.out.alloc _); have HOa := hide (show OwnL Va wr.heap.size 3 (fun _ => False) (.slice A2 n2 k2) i.args from hVa ▸ (ho.lower28 (by rw [size_ext]; omega)).alloc _); have HRa := hide (show Va.heap[I]? = some (.cells #[.int .i64 i.op, .int .i64 i.dst, .int .i64 i.a, .int .i64 i.b, .int .i64 i.imm, .int .i64 i.callee, .slice A2 n2 k2, .int .i64 i.many] 45 (0, 0)) from hVa ▸ hI ▸ heap_alloc_new V _); clear ho hat hon m0 m1 m2 m3 m4 f0 f1 f2 f3 f4 ml rl r0; obtain ⟨m0, m1, m2, m3, m4⟩ := cells5 HWa.out.xa.row; obtain ⟨f0, f1, f2, f3, f4, ml, rl, r0⟩ := HWa.out.xa.fzs) | (go_at_call 40; (with_reducible refine (cFail HWa.out.xa.ra.rd.cur 3).mono ?_); rintro e V3 ⟨rfl, hat, hon⟩; have HW3 := hide (HWa.out.call hon hat (sfx_fail 3 sr)); have HO3 := hide (HOa.out.only4 hon HSZ.out.2); have HR3 := hide ((hon.block I (Array.getElem?_eq_some_iff.1 HRa.out).1 (by have := HSZ.out; omega)).trans HRa.out); clear hat hon m0 m1 m2 m3 m4 f0 f1 f2 f3 f4 ml rl r0; obtain ⟨m0, m1, m2, m3, m4⟩ := cells5 HW3.out.xa.row; obtain ⟨f0, f1, f2, f3, f4, ml, rl, r0⟩ := HW3.out.xa.fzs) | (go_at_call 42; (with_reducible refine (cEnd HW3.out.xa.ra.rd.cur).mono ?_); rintro e V4 ⟨rfl, hat, hon⟩; have HW4 := hide (HW3.out.call hon hat (sfx_end _)); have HO4 := hide (HO3.out.only4 hon HSZ.out.2); have HR4 := hide ((hon.block I (Array.getElem?_eq_some_iff.1 HR3.out).1 (by have := HSZ.out; omega)).trans HR3.out); clear hat hon m0 m1 m2 m3 m4 f0 f1 f2 f3 f4 ml rl r0; obtain ⟨m0, m1, m2, m3, m4⟩ := cells5 HW4.out.xa.row; obtain ⟨f0, f1, f2, f3, f4, ml, rl, r0⟩ := HW4.out.xa.fzs; obtain ⟨i0', i1, i2, i3, i4, i5, i6, i7⟩ := cells8 HR4.out; have il : I < V4.heap.size := (Array.getElem?_eq_some_iff.1 HR4.out).1; obtain ⟨St', hSt'⟩ : ∃ St' : Nat → Prop, St' = fun b => St b ∨ (wr.heap.size ≤ b ∧ b < V4.heap.size) := ⟨_, rfl⟩; have HST := hide hSt'; clear hSt') | (at_builtin; refine wpList_push (α := Ins) V4 [.int .i64 i.op, .int .i64 i.dst, .int .i64 i.a, .int .i64 i.b, .int .i64 i.imm, .int .i64 i.callee, .slice A2 n2 k2, .int .i64 i.many] 45 rfl (.tmp 57) (.tmp 59) 46 rfl (M + 1) 45 i0 _ 80 Tryz.underlying46 HI0.out HZ.out HZ1.out HZ2.out rfl (by decide) St St' (.slice A l.length k) l i rfl HW4.out.own V4.heap.size rfl rfl (Ins.mk_ HIN.out.1 HIN.out.2.1 HIN.out.2.2.1 HIN.out.2.2.2.1 HIN.out.2.2.2.2.1 HIN.out.2.2.2.2.2.1 (HO4.out.sl fun b hb h => by rw [HST.out]; rcases h with h | h; exact h.elim; exact .inr ⟨h, hb⟩) HIN.out.2.2.2.2.2.2) (fun b h => by rw [HST.out]; exact .inl h) (fun g e h => by rw [HST.out] at h; rcases h with h | h; (obtain ⟨_, _, _, h3⟩ := HW4.out.own; exact h3 g e h); (have := (HT.out.own.below_ g e).2; omega)) (fun b h => by rw [HST.out] at h; rcases h with h | h; exact (HW4.out.st b h).2; exact h.2) (by have := HLL.out; omega) (by have := HLL.out; omega) (by have := HW4.out.xa.ml; omega) ?_; intro v' W5 ho1 hgr h5; obtain ⟨A', k', hv'⟩ := ho1.form; subst hv'; have HG := hide ((HW4.out.alloc (.cells #[.int .i64 i.op, .int .i64 i.dst, .int .i64 i.a, .int .i64 i.b, .int .i64 i.imm, .int .i64 i.callee, .slice A2 n2 k2, .int .i64 i.many] 45)).xa.grown hgr (fun g e => by have := (HW4.out.own.below_ g e).1; omega)); have HP := hide ((HW4.out.alloc (.cells #[.int .i64 i.op, .int .i64 i.dst, .int .i64 i.a, .int .i64 i.b, .int .i64 i.imm, .int .i64 i.callee, .slice A2 n2 k2, .int .i64 i.many] 45)).push hgr ho1 (fun b h => by have h7 := hgr.size; have h8 : V4.heap.size < (V4.alloc (.cells #[.int .i64 i.op, .int .i64 i.dst, .int .i64 i.a, .int .i64 i.b, .int .i64 i.imm, .int .i64 i.callee, .slice A2 n2 k2, .int .i64 i.many] 45)).heap.size := (by simp); rw [HST.out] at h; rcases h with h | h; (have := HW4.out.st b h; omega); (have := HT.out.xa.ml; omega))); clear hgr h5 m0 m1 m2 m3 m4 f0 f1 f2 f3 f4 ml rl r0 i0' i1 i2 i3 i4 i5 i6 i7 il; obtain ⟨m0, m1, m2, m3, m4⟩ := cells5 HG.out.row; obtain ⟨f0, f1, f2, f3, f4, ml, rl, r0⟩ := HG.out.fzs))
       have hl : (l ++ [i]).length = l.length + 1 := by simp
       rw [hl] at HP
       have HLG := hide HP.out.xa.ra.rd.cur.aliveM_
       clear ho1
       go_roundw
       case rel => exact ⟨A', k', l ++ [i], St', _, hl ▸ HP.out, HGO.out, by have := HLL.out; have := HDEC.out; simp only [List.length_append, List.length_singleton]; omega⟩
       case measure => rw [HLG.out, HLE.out]; exact HDEC.out
      | false =>
       have h64 : ¬ l.length = 64 := by have := HB10.out; simp at this; omega
       have h3 : sr = s3 := by rw [← HS3.out, if_neg h64]
       subst h3
       clear h64
       go_wp2_with (first | (simp only [as_ins4]) | (go_at_call 98; (with_reducible refine HAB.out.mono ?_); rintro e _ ⟨rfl, u, rfl⟩) | (go_at_call 99; (with_reducible refine (HONE.out _ (HT.out.xa.ra.rd.ext _)).mono ?_); rintro e V ⟨_, rfl, ⟨A2, n2, k2, rfl, ho⟩, hat, hon⟩; have HWV := hide ((HT.out.ext u).call hon hat HSR.out); obtain ⟨I, hI⟩ : ∃ I, V.heap.size = I := ⟨_, rfl⟩; obtain ⟨Va, hVa⟩ : ∃ Va, V.alloc (.cells #[.int .i64 i.op, .int .i64 i.dst, .int .i64 i.a, .int .i64 i.b, .int .i64 i.imm, .int .i64 i.callee, .slice A2 n2 k2, .int .i64 i.many] 45) = Va := ⟨_, rfl⟩; have HSZ := hide (show wr.heap.size ≤ I ∧ c < wr.heap.size from ⟨(by have h7 := hon.size; rw [size_ext] at h7; omega), HT.out.xa.ra.cl⟩); have HWa := hide (show WA4 w Va R M c S1 (.slice A l.length k) zeroTerm l St sr from hVa ▸ HWV.out.alloc _); have HOa := hide (show OwnL Va wr.heap.size 3 (fun _ => False) (.slice A2 n2 k2) i.args from hVa ▸ (ho.lower28 (by rw [size_ext]; omega)).alloc _); have HRa := hide (show Va.heap[I]? = some (.cells #[.int .i64 i.op, .int .i64 i.dst, .int .i64 i.a, .int .i64 i.b, .int .i64 i.imm, .int .i64 i.callee, .slice A2 n2 k2, .int .i64 i.many] 45 (0, 0)) from hVa ▸ hI ▸ heap_alloc_new V _); clear ho hat hon m0 m1 m2 m3 m4 f0 f1 f2 f3 f4 ml rl r0; obtain ⟨m0, m1, m2, m3, m4⟩ := cells5 HWa.out.xa.row; obtain ⟨f0, f1, f2, f3, f4, ml, rl, r0⟩ := HWa.out.xa.fzs) | (go_at_call 42; (with_reducible refine (cEnd HWa.out.xa.ra.rd.cur).mono ?_); rintro e V4 ⟨rfl, hat, hon⟩; have HW4 := hide (HWa.out.call hon hat (sfx_end _)); have HO4 := hide (HOa.out.only4 hon HSZ.out.2); have HR4 := hide ((hon.block I (Array.getElem?_eq_some_iff.1 HRa.out).1 (by have := HSZ.out; omega)).trans HRa.out); clear hat hon m0 m1 m2 m3 m4 f0 f1 f2 f3 f4 ml rl r0; obtain ⟨m0, m1, m2, m3, m4⟩ := cells5 HW4.out.xa.row; obtain ⟨f0, f1, f2, f3, f4, ml, rl, r0⟩ := HW4.out.xa.fzs; obtain ⟨i0', i1, i2, i3, i4, i5, i6, i7⟩ := cells8 HR4.out; have il : I < V4.heap.size := (Array.getElem?_eq_some_iff.1 HR4.out).1; obtain ⟨St', hSt'⟩ : ∃ St' : Nat → Prop, St' = fun b => St b ∨ (wr.heap.size ≤ b ∧ b < V4.heap.size) := ⟨_, rfl⟩; have HST := hide hSt'; clear hSt') | (at_builtin; refine wpList_push (α := Ins) V4 [.int .i64 i.op, .int .i64 i.dst, .int .i64 i.a, .int .i64 i.b, .int .i64 i.imm, .int .i64 i.callee, .slice A2 n2 k2, .int .i64 i.many] 45 rfl (.tmp 57) (.tmp 59) 46 rfl (M + 1) 45 i0 _ 80 Tryz.underlying46 HI0.out HZ.out HZ1.out HZ2.out rfl (by decide) St St' (.slice A l.length k) l i rfl HW4.out.own V4.heap.size rfl rfl (Ins.mk_ HIN.out.1 HIN.out.2.1 HIN.out.2.2.1 HIN.out.2.2.2.1 HIN.out.2.2.2.2.1 HIN.out.2.2.2.2.2.1 (HO4.out.sl fun b hb h => by rw [HST.out]; rcases h with h | h; exact h.elim; exact .inr ⟨h, hb⟩) HIN.out.2.2.2.2.2.2) (fun b h => by rw [HST.out]; exact .inl h) (fun g e h => by rw [HST.out] at h; rcases h with h | h; (obtain ⟨_, _, _, h3⟩ := HW4.out.own; exact h3 g e h); (have := (HT.out.own.below_ g e).2; omega)) (fun b h => by rw [HST.out] at h; rcases h with h | h; exact (HW4.out.st b h).2; exact h.2) (by have := HLL.out; omega) (by have := HLL.out; omega) (by have := HW4.out.xa.ml; omega) ?_; intro v' W5 ho1 hgr h5; obtain ⟨A', k', hv'⟩ := ho1.form; subst hv'; have HG := hide ((HW4.out.alloc (.cells #[.int .i64 i.op, .int .i64 i.dst, .int .i64 i.a, .int .i64 i.b, .int .i64 i.imm, .int .i64 i.callee, .slice A2 n2 k2, .int .i64 i.many] 45)).xa.grown hgr (fun g e => by have := (HW4.out.own.below_ g e).1; omega)); have HP := hide ((HW4.out.alloc (.cells #[.int .i64 i.op, .int .i64 i.dst, .int .i64 i.a, .int .i64 i.b, .int .i64 i.imm, .int .i64 i.callee, .slice A2 n2 k2, .int .i64 i.many] 45)).push hgr ho1 (fun b h => by have h7 := hgr.size; have h8 : V4.heap.size < (V4.alloc (.cells #[.int .i64 i.op, .int .i64 i.dst, .int .i64 i.a, .int .i64 i.b, .int .i64 i.imm, .int .i64 i.callee, .slice A2 n2 k2, .int .i64 i.many] 45)).heap.size := (by simp); rw [HST.out] at h; rcases h with h | h; (have := HW4.out.st b h; omega); (have := HT.out.xa.ml; omega))); clear hgr h5 m0 m1 m2 m3 m4 f0 f1 f2 f3 f4 ml rl r0 i0' i1 i2 i3 i4 i5 i6 i7 il; obtain ⟨m0, m1, m2, m3, m4⟩ := cells5 HG.out.row; obtain ⟨f0, f1, f2, f3, f4, ml, rl, r0⟩ := HG.out.fzs))
       have hl : (l ++ [i]).length = l.length + 1 := by simp
       rw [hl] at HP
       have HLG := hide HP.out.xa.ra.rd.cur.aliveM_
       clear ho1
       go_roundw
       case rel => exact ⟨A', k', l ++ [i], St', _, hl ▸ HP.out, HGO.out, by have := HLL.out; have := HDEC.out; simp only [List.length_append, List.length_singleton]; omega⟩
       case measure => rw [HLG.out, HLE.out]; exact HDEC.out
end Go.Proofs.YtljglhaeonbfoaaGreatDoor
