/- law04: walks: a block is read. law04: what stands while a function is read; a text that is too long. law04: walks: read.Parse. Printed by gen_w4l.py. -/
import Derived.Test.YtljglhaeonbfoaaGreatDoorG35
import Derived.Deep.DeepCutAuto
set_option linter.unusedSimpArgs false
set_option linter.unusedVariables false
namespace Go.Proofs.YtljglhaeonbfoaaGreatDoor
open Go.RowKit
theorem XA4.fzs {w0 W : World} {R M c : Nat} {S : Nat → Prop} {T : TypeId} {cs : Array Value} {s : Cur} (h : XA4 w0 W R M c S T cs s) : W.frozen? ⟨M, 0, none⟩ = false ∧ W.frozen? ⟨M, 1, none⟩ = false ∧ W.frozen? ⟨M, 2, none⟩ = false ∧ W.frozen? ⟨M, 3, none⟩ = false ∧ W.frozen? ⟨M, 4, none⟩ = false ∧ M < W.heap.size ∧ R < W.heap.size ∧ W.cell? ⟨R, 0, none⟩ = some (.pointer (some ⟨c, 0, none⟩)) := ⟨h.fz 0, h.fz 1, h.fz 2, h.fz 3, h.fz 4, h.ml, h.ra.rl, h.ra.k0⟩
theorem OwnL.only4 {α : Type} [Rep α] {c B : Nat} {W W' : World} {T : TypeId} {v : Value} {l : List α} (h : OwnL W B T (fun _ => False) v l) (hon : Only c W W') (hc : c < B) : OwnL W' B T (fun _ => False) v l :=
 h.keep hon.size (fun _ hf => hf.elim) fun g hg => hon.block g (h.below_ g hg).2 (by have := (h.below_ g hg).1; omega)
set_option maxRecDepth 100000 in
set_option maxHeartbeats 32000000 in
theorem whole_any (w : World) (S : Nat → Prop) (c : Nat) (s : Cur) (n : Nat) (hn : n ≤ 1099511627780) (h : Rd4 w S c s) : Calls Tryz.prog 44 #[rd4 c, .int .i64 n] w (WholeP S c w (wholeC false n s)) := by
 obtain ⟨i0, hi, hz, hz1, hz2⟩ := info_parts info_Ins4
 have HI0 := hide hi; have HZ := hide hz; have HZ1 := hide hz1; have HZ2 := hide hz2
 clear hi hz hz1 hz2
 have HNS := hide h.cur.nS
 obtain ⟨R, hR⟩ : ∃ R, w.heap.size = R := ⟨_, rfl⟩
 obtain ⟨S1, hS1⟩ : ∃ S1 : Nat → Prop, S1 = fun b => S b ∧ b < R := ⟨_, rfl⟩
 obtain ⟨W1, hW1⟩ : ∃ W1, w.alloc (.cells #[.pointer (some ⟨c, 0, none⟩)] 77) = W1 := ⟨_, rfl⟩
 have HT1 := hide (show RA4 w W1 R c S1 s from by rw [hS1, ← hW1, ← hR]; exact RA4.start h)
 have HS1 := hide hS1
 have HRQ := hide hR
 obtain ⟨M, hM⟩ : ∃ M, W1.heap.size = M := ⟨_, rfl⟩
 obtain ⟨W2, hW2⟩ : ∃ W2, W1.alloc (.cells #[.slice none 0 0, .int .i64 0, .int .i64 0, .int .i64 0, .int .i64 0] 52) = W2 := ⟨_, rfl⟩
 have HW2 := hide (show WA4 w W2 R M c S1 (.slice none 0 0) zeroTerm [] (fun _ => False) s from by
  rw [← hW2, ← hM]; exact ⟨XA4.start HT1.out _ _, OwnL.nil_ _ _ _ _, fun _ h => h.elim⟩)
 obtain ⟨s1, hs1⟩ : ∃ s1, (if n = 64 then failC 3 s else s) = s1 := ⟨_, rfl⟩
 obtain ⟨s2, hs2⟩ : ∃ s2, keyC tBlock s1 = s2 := ⟨_, rfl⟩
 obtain ⟨q, hq⟩ : ∃ q, numC n n s2 = q := ⟨_, rfl⟩
 obtain ⟨X, hX⟩ : ∃ X, blkC false ((⟨[], zeroTerm⟩, false), endC q.2) = X := ⟨_, rfl⟩
 have hwh : wholeC false n s = (X.1.1, X.2) := by
  unfold wholeC headB
  rw [hs1, hs2, hq, hX]
 rw [hwh]
 have HXQ := hide hX
 have HS1Q := hide hs1; have HS2Q := hide hs2; have HQQ := hide hq
 obtain ⟨r0, rl, ml⟩ : W2.cell? ⟨R, 0, none⟩ = some (.pointer (some ⟨c, 0, none⟩)) ∧ R < W2.heap.size ∧ M < W2.heap.size := ⟨HW2.out.xa.ra.k0, HW2.out.xa.ra.rl, HW2.out.xa.ml⟩
 have HMQ := hide hM
 obtain ⟨b9, hb9⟩ : ∃ b, ((n : Int) == 64) = b := ⟨_, rfl⟩
 have HB9 := hide hb9
 clear h hS1 hX hwh hs1 hs2 hq HT1
 go_enter Tryz.func44, Tryz.ntmps44
 go_upto_if 9 with (fail)
 go_cut [] from 10 to 12 (fun wc => WA4 w wc R M c S1 (.slice none 0 0) zeroTerm [] (fun _ => False) s1)
 case first =>
  cases b9 with
  | true =>
   have h64 : n = 64 := by have := HB9.out; simp at this; omega
   have HF := hide (show Calls Tryz.prog 40 #[.pointer (some ⟨c, 0, none⟩), .int .i64 3] W2 (CurP S1 c W2 s1 (.tuple #[])) from by have h := cFail HW2.out.xa.ra.rd.cur 3; rw [← HS1Q.out, if_pos h64]; exact h)
   have HSF := hide (show SufX s s1 from by rw [← HS1Q.out, if_pos h64]; exact sfx_fail _ _)
   clear h64
   go_wp2_with (first | (go_at_call 40; (with_reducible refine HF.out.mono ?_); rintro e V ⟨rfl, hat, hon⟩; have HW3 := hide (HW2.out.call hon hat HSF.out); clear hat hon))
   go_meet
   exact HW3.out
  | false =>
   have h64 : ¬ n = 64 := by have := HB9.out; simp at this; omega
   have HW3 := hide (show WA4 w W2 R M c S1 (.slice none 0 0) zeroTerm [] (fun _ => False) s1 from by rw [← HS1Q.out, if_neg h64]; exact HW2.out)
   clear h64
   go_wp2_with fail
   go_meet
   exact HW3.out
 case rest =>
  have HW3 := hide hcut
  obtain ⟨Wa, hWa⟩ : ∃ W, W = wc := ⟨_, rfl⟩
  subst hWa
  clear hcut HW2 r0 rl ml hW2 hW1
  obtain ⟨r0, rl, ml⟩ : Wa.cell? ⟨R, 0, none⟩ = some (.pointer (some ⟨c, 0, none⟩)) ∧ R < Wa.heap.size ∧ M < Wa.heap.size := ⟨HW3.out.xa.ra.k0, HW3.out.xa.ra.rl, HW3.out.xa.ml⟩
  obtain ⟨b1, hb1⟩ : ∃ b, isC (.nm tBlock) s1 = b := ⟨_, rfl⟩
  have HK := hide (show Calls Tryz.prog 39 #[.pointer (some ⟨c, 0, none⟩), .string ⟨#[98, 108, 111, 99, 107]⟩] Wa (CurP S1 c Wa (overC b1 s1) (.bool b1)) from by have h := cKey HW3.out.xa.ra.rd.cur tBlock; rw [hb1] at h; exact h)
  have HB1 := hide hb1
  clear hb1
  go_upto_if 16 with (first | (go_at_call 39; (with_reducible refine HK.out.mono ?_); rintro e V1 ⟨rfl, hat, hon⟩; have HW4 := hide (HW3.out.call hon hat (sfx_over b1 s1)); clear hat hon r0 rl ml))
  obtain ⟨r0, rl, ml⟩ : V1.cell? ⟨R, 0, none⟩ = some (.pointer (some ⟨c, 0, none⟩)) ∧ R < V1.heap.size ∧ M < V1.heap.size := ⟨HW4.out.xa.ra.k0, HW4.out.xa.ra.rl, HW4.out.xa.ml⟩
  clear HW3 HK
  go_cut [] from 17 to 19 (fun wc => WA4 w wc R M c S1 (.slice none 0 0) zeroTerm [] (fun _ => False) s2)
  case first =>
   cases b1 with
   | true =>
    have HW5 := hide (show WA4 w V1 R M c S1 (.slice none 0 0) zeroTerm [] (fun _ => False) s2 from by rw [← HS2Q.out]; unfold keyC; rw [if_pos HB1.out]; exact HW4.out)
    go_wp2_with fail
    go_meet
    exact HW5.out
   | false =>
    have HF := hide (show Calls Tryz.prog 40 #[.pointer (some ⟨c, 0, none⟩), .int .i64 7] V1 (CurP S1 c V1 s2 (.tuple #[])) from by have h := cFail HW4.out.xa.ra.rd.cur 7; rw [← HS2Q.out]; unfold keyC; rw [if_neg (by rw [HB1.out]; decide)]; exact h)
    have HSF := hide (show SufX (overC false s1) s2 from by rw [← HS2Q.out]; unfold keyC; rw [if_neg (by rw [HB1.out]; decide)]; exact sfx_fail _ _)
    go_wp2_with (first | (go_at_call 40; (with_reducible refine HF.out.mono ?_); rintro e V ⟨rfl, hat, hon⟩; have HW5 := hide (HW4.out.call hon hat HSF.out); clear hat hon))
    go_meet
    exact HW5.out
  case rest =>
   have HW5 := hide hcut
   obtain ⟨Wb, hWb⟩ : ∃ W, W = wc := ⟨_, rfl⟩
   subst hWb
   clear hcut HW4 r0 rl ml HB1
   obtain ⟨r0, rl, ml⟩ : Wb.cell? ⟨R, 0, none⟩ = some (.pointer (some ⟨c, 0, none⟩)) ∧ R < Wb.heap.size ∧ M < Wb.heap.size := ⟨HW5.out.xa.ra.k0, HW5.out.xa.ra.rl, HW5.out.xa.ml⟩
   have HN := hide (show Calls Tryz.prog 97 #[.pointer (some ⟨c, 0, none⟩), .int .i64 n, .int .i64 n] Wb (CurP S1 c Wb q.2 (.int .i64 q.1)) from by have h := cNum HW5.out.xa.ra.rd.cur n n; rw [HQQ.out] at h; exact h)
   have HSN := hide (show SufX s2 q.2 from HQQ.out ▸ sfx_num _ _ _)
   go_wp2_with (first | (go_at_call 97; (with_reducible refine HN.out.mono ?_); rintro e V2 ⟨rfl, hat, hon⟩; have HW6 := hide (HW5.out.call hon hat HSN.out); clear hat hon r0 rl ml; obtain ⟨r0, rl, ml⟩ : V2.cell? ⟨R, 0, none⟩ = some (.pointer (some ⟨c, 0, none⟩)) ∧ R < V2.heap.size ∧ M < V2.heap.size := ⟨HW6.out.xa.ra.k0, HW6.out.xa.ra.rl, HW6.out.xa.ml⟩) | (go_at_call 42; (with_reducible refine (cEnd HW6.out.xa.ra.rd.cur).mono ?_); rintro e V3 ⟨rfl, hat, hon⟩; have HW7 := hide (HW6.out.call hon hat (sfx_end _)); clear hat hon))
   clear r0 rl ml HW5 HW6 HN
   go_loopw [] (fun wr => ∃ (A : Option Addr) (k : Nat) (l : List Ins) (St : Nat → Prop) (s' : Cur), WA4 w wr R M c S1 (.slice A l.length k) zeroTerm l St s' ∧ blkC false ((⟨l, zeroTerm⟩, false), s') = X ∧ l.length + aliveC s' ≤ 1099511627780) (fun wr => aliveM c wr)
   case atStart => exact ⟨none, 0, [], _, endC q.2, HW7.out, HXQ.out, by have := HW7.out.xa.ra.rd.wd.alive; simp only [List.length_nil]; omega⟩
   case round =>
    obtain ⟨A, k, l, St, s', ht, hx, hll⟩ := hrel
    have HT := hide ht; have HXX := hide hx; have HLL := hide hll
    have HLE := hide ht.xa.ra.rd.cur.aliveM_
    have HAB := hide (able_any ht.xa.ra.rd.cur)
    obtain ⟨m0, m1, m2, m3, m4⟩ := cells5 ht.xa.row
    obtain ⟨f0, f1, f2, f3, f4, ml, rl, r0⟩ := ht.xa.fzs
    clear ht hx hll HW7
    obtain ⟨eb, heb⟩ : ∃ b, (s'.e == 0) = b := ⟨_, rfl⟩
    rw [heb] at HAB
    cases eb with
    | false =>
     have HE := hide (show X = ((⟨l, zeroTerm⟩, false), s') from by
      rw [← HXX.out]
      exact blkC_stop (by unfold blkG; rw [if_pos (.inr (by simpa using heb))]))
     clear heb
     go_wp2_with (first | (go_at_call 98; (with_reducible refine HAB.out.mono ?_); rintro e _ ⟨rfl, u, rfl⟩))
     have HZW := hide (HT.out.again.ext u)
     refine bodyPost_ret (results_cell_row Tryz.results44 _ _ M _ _ (0, 0) _ rfl HZW.out.xa.row Tryz.underlying52 rfl (by kernel_rfl)) rfl ?_
     rw [HE.out]
     exact ⟨A, l.length, k, St, rfl, HZW.out.own.lower28 (by have := HZW.out.xa.o2; have := HRQ.out; omega), fun b h => by have h1 := HZW.out.st b h; have := HZW.out.xa.o2; have := HRQ.out; omega, ⟨iI 0 rfl, iI 0 rfl, iI 0 rfl, iI 0 rfl⟩, HZW.out.xa.ra.rd.cur.moreS (fun b _ h => by rw [HS1.out] at h; exact h.1) HNS.out, HZW.out.xa.ra.only⟩
    | true =>
     have hse : s'.e = 0 := by simpa using heb
     obtain ⟨r, hr⟩ : ∃ r, oneC false s' = r := ⟨_, rfl⟩
     have hin := one_in04i false s'
     have HONE := hide (fun (W : World) (h : Rd4 W S1 c s') => show Calls Tryz.prog 99 #[rd4 c] W (LnP S1 c W r) from hr ▸ one_any W S1 c s' h)
     have HSR := hide (show SufX s' r.2 from hr ▸ sfx_one false s')
     rw [hr] at hin
     obtain ⟨ln, sr⟩ := r
     have HB := hide (show wr.heap.size = wr.heap.size from rfl)
     cases ln with
     | term t =>
      have hin : TermIn t := hin
      have HIN := hide hin
      have hgo : blkG false ((⟨l, zeroTerm⟩, false), s') = some ((⟨l, t⟩, true), endC sr) := by
       unfold blkG
       rw [if_neg (by rintro (h | h); cases h; exact h hse)]
       simp only
       rw [hr]
      have HE := hide (show X = ((⟨l, t⟩, true), endC sr) from by
       rw [← HXX.out, blkC_go hgo]
       exact blkC_stop (by unfold blkG; rw [if_pos (.inl rfl)]))
      clear heb hse hr hin hgo
      go_wp2_with (first | (simp only [as_ins4_no 50 (by decide)]) | (simp only [as_term4]) | (go_at_call 98; (with_reducible refine HAB.out.mono ?_); rintro e _ ⟨rfl, u, rfl⟩) | (go_at_call 99; (with_reducible refine (HONE.out _ (HT.out.xa.ra.rd.ext _)).mono ?_); rintro e V ⟨_, rfl, rfl, hat, hon⟩; have HWV := hide ((HT.out.ext u).call hon hat HSR.out); clear hat hon m0 m1 m2 m3 m4 f0 f1 f2 f3 f4 ml rl r0; obtain ⟨f0, f1, f2, f3, f4, ml, rl, r0⟩ := HWV.out.xa.fzs) | (go_at_call 42; (with_reducible refine (cEnd (HWV.out.alloc _).xa.ra.rd.cur).mono ?_); rintro e V2 ⟨rfl, hat, hon⟩; have HW9 := hide ((HWV.out.alloc _).call hon hat (sfx_end _)); clear hat hon f0 f1 f2 f3 f4 ml rl r0; obtain ⟨m0, m1, m2, m3, m4⟩ := cells5 HW9.out.xa.row; obtain ⟨f0, f1, f2, f3, f4, ml, rl, r0⟩ := HW9.out.xa.fzs; obtain ⟨Y, hY⟩ : ∃ Y, (((V2.setCell ⟨M, 1, none⟩ (.int .i64 t.kind)).setCell ⟨M, 2, none⟩ (.int .i64 t.a)).setCell ⟨M, 3, none⟩ (.int .i64 t.to0)).setCell ⟨M, 4, none⟩ (.int .i64 t.to1) = Y := ⟨_, rfl⟩; have HY := hide (show WA4 w Y R M c S1 (.slice A l.length k) t l St (endC sr) from hY ▸ HW9.out.term t); obtain ⟨z0, z1, z2, z3, z4⟩ := cells5 HY.out.xa.row; obtain ⟨g0, g1, g2, g3, g4, zl, yl, y0⟩ := HY.out.xa.fzs))
      have HZW := hide HY.out.again
      refine bodyPost_ret (results_cell_row Tryz.results44 _ _ M _ _ (0, 0) _ rfl HZW.out.xa.row Tryz.underlying52 rfl (by kernel_rfl)) rfl ?_
      rw [HE.out]
      exact ⟨A, l.length, k, St, rfl, HZW.out.own.lower28 (by have := HZW.out.xa.o2; have := HRQ.out; omega), fun b h => by have h1 := HZW.out.st b h; have := HZW.out.xa.o2; have := HRQ.out; omega, HIN.out, HZW.out.xa.ra.rd.cur.moreS (fun b _ h => by rw [HS1.out] at h; exact h.1) HNS.out, HZW.out.xa.ra.only⟩
     | ins i =>
      have hin : InsIn i := hin
      have HIN := hide hin
      obtain ⟨s3, hs3⟩ : ∃ s3, (if l.length = 64 then failC 3 sr else sr) = s3 := ⟨_, rfl⟩
      have hgo : blkG false ((⟨l, zeroTerm⟩, false), s') = some ((⟨l ++ [i], zeroTerm⟩, false), endC s3) := by
       unfold blkG
       rw [if_neg (by rintro (h | h); cases h; exact h hse)]
       simp only
       rw [hr]
       simp only
       rw [hs3]
      have HGO := hide (show blkC false ((⟨l ++ [i], zeroTerm⟩, false), endC s3) = X from by rw [← HXX.out, blkC_go hgo])
      have HDEC := hide (show aliveC (endC s3) < aliveC s' from blkG_dec _ _ hgo)
      have HS3 := hide hs3
      clear heb hse hr hin hgo hs3
      obtain ⟨b10, hb10⟩ : ∃ b, ((l.length : Int) == 64) = b := ⟨_, rfl⟩
      have HB10 := hide hb10
      cases b10 with
      | true =>
       have h64 : l.length = 64 := by have := HB10.out; simp at this; omega
       have h3 : failC 3 sr = s3 := by rw [← HS3.out, if_pos h64]
       subst h3
       clear h64
       go_wp2_with (first | (simp only [as_ins4]) | (go_at_call 98; (with_reducible refine HAB.out.mono ?_); rintro e _ ⟨rfl, u, rfl⟩) | (go_at_call 99; (with_reducible refine (HONE.out _ (HT.out.xa.ra.rd.ext _)).mono ?_); rintro e V ⟨_, rfl, ⟨A2, n2, k2, rfl, ho⟩, hat, hon⟩; have HWV := hide ((HT.out.ext u).call hon hat HSR.out); obtain ⟨I, hI⟩ : ∃ I, V.heap.size = I := ⟨_, rfl⟩; obtain ⟨Va, hVa⟩ : ∃ Va, V.alloc (.cells #[.int .i64 i.op, .int .i64 i.dst, .int .i64 i.a, .int .i64 i.b, .int .i64 i.imm, .int .i64 i.callee, .slice A2 n2 k2, .int .i64 i.many] 45) = Va := ⟨_, rfl⟩; have HSZ := hide (show wr.heap.size ≤ I ∧ c < wr.heap.size from ⟨(by have h7 := hon.size; rw [size_ext] at h7; omega), HT.out.xa.ra.cl⟩); have HWa := hide (show WA4 w Va R M c S1 (.slice A l.length k) zeroTerm l St sr from hVa ▸ HWV.out.alloc _); have HOa := hide (show OwnL Va wr.heap.size 3 (fun _ => False) (.slice A2 n2 k2) i.args from hVa ▸ (ho.lower28 (by rw [size_ext]; omega)).alloc _); have HRa := hide (show Va.heap[I]? = some (.cells #[.int .i64 i.op, .int .i64 i.dst, .int .i64 i.a, .int .i64 i.b, .int .i64 i.imm, .int .i64 i.callee, .slice A2 n2 k2, .int .i64 i.many] 45 (0, 0)) from hVa ▸ hI ▸ heap_alloc_new V _); clear ho hat hon m0 m1 m2 m3 m4 f0 f1 f2 f3 f4 ml rl r0; obtain ⟨m0, m1, m2, m3, m4⟩ := cells5 HWa.out.xa.row; obtain ⟨f0, f1, f2, f3, f4, ml, rl, r0⟩ := HWa.out.xa.fzs) | (go_at_call 40; (with_reducible refine (cFail HWa.out.xa.ra.rd.cur 3).mono ?_); rintro e V3 ⟨rfl, hat, hon⟩; have HW3 := hide (HWa.out.call hon hat (sfx_fail 3 sr)); have HO3 := hide (HOa.out.only4 hon HSZ.out.2); have HR3 := hide ((hon.block I (Array.getElem?_eq_some_iff.1 HRa.out).1 (by have := HSZ.out; omega)).trans HRa.out); clear hat hon m0 m1 m2 m3 m4 f0 f1 f2 f3 f4 ml rl r0; obtain ⟨m0, m1, m2, m3, m4⟩ := cells5 HW3.out.xa.row; obtain ⟨f0, f1, f2, f3, f4, ml, rl, r0⟩ := HW3.out.xa.fzs) | (go_at_call 42; (with_reducible refine (cEnd HW3.out.xa.ra.rd.cur).mono ?_); rintro e V4 ⟨rfl, hat, hon⟩; have HW4 := hide (HW3.out.call hon hat (sfx_end _)); have HO4 := hide (HO3.out.only4 hon HSZ.out.2); have HR4 := hide ((hon.block I (Array.getElem?_eq_some_iff.1 HR3.out).1 (by have := HSZ.out; omega)).trans HR3.out); clear hat hon m0 m1 m2 m3 m4 f0 f1 f2 f3 f4 ml rl r0; obtain ⟨m0, m1, m2, m3, m4⟩ := cells5 HW4.out.xa.row; obtain ⟨f0, f1, f2, f3, f4, ml, rl, r0⟩ := HW4.out.xa.fzs; obtain ⟨i0', i1, i2, i3, i4, i5, i6, i7⟩ := cells8 HR4.out; have il : I < V4.heap.size := (Array.getElem?_eq_some_iff.1 HR4.out).1; obtain ⟨St', hSt'⟩ : ∃ St' : Nat → Prop, St' = fun b => St b ∨ (wr.heap.size ≤ b ∧ b < V4.heap.size) := ⟨_, rfl⟩; have HST := hide hSt'; clear hSt') | (at_builtin; refine wpList_push (α := Ins) V4 [.int .i64 i.op, .int .i64 i.dst, .int .i64 i.a, .int .i64 i.b, .int .i64 i.imm, .int .i64 i.callee, .slice A2 n2 k2, .int .i64 i.many] 45 rfl (.tmp 57) (.tmp 59) 46 rfl (M + 1) 45 i0 _ 80 Tryz.underlying46 HI0.out HZ.out HZ1.out HZ2.out rfl (by decide) St St' (.slice A l.length k) l i rfl HW4.out.own V4.heap.size rfl rfl (Ins.mk_ HIN.out.1 HIN.out.2.1 HIN.out.2.2.1 HIN.out.2.2.2.1 HIN.out.2.2.2.2.1 HIN.out.2.2.2.2.2.1 (HO4.out.sl fun b hb h => by rw [HST.out]; rcases h with h | h; exact h.elim; exact .inr ⟨h, hb⟩) HIN.out.2.2.2.2.2.2) (fun b h => by rw [HST.out]; exact .inl h) (fun g e h => by rw [HST.out] at h; rcases h with h | h; (obtain ⟨_, _, _, h3⟩ := HW4.out.own; exact h3 g e h); (have := (HT.out.own.below_ g e).2; omega)) (fun b h => by rw [HST.out] at h; rcases h with h | h; exact (HW4.out.st b h).2; exact h.2) (by have := HLL.out; omega) (by have := HLL.out; omega) (by have := HW4.out.xa.ml; omega) ?_; intro v' W5 ho1 hgr h5; obtain ⟨A', k', hv'⟩ := ho1.form; subst hv'; have HG := hide ((HW4.out.alloc (.cells #[.int .i64 i.op, .int .i64 i.dst, .int .i64 i.a, .int .i64 i.b, .int .i64 i.imm, .int .i64 i.callee, .slice A2 n2 k2, .int .i64 i.many] 45)).xa.grown hgr (fun g e => by have := (HW4.out.own.below_ g e).1; omega)); have HP := hide ((HW4.out.alloc (.cells #[.int .i64 i.op, .int .i64 i.dst, .int .i64 i.a, .int .i64 i.b, .int .i64 i.imm, .int .i64 i.callee, .slice A2 n2 k2, .int .i64 i.many] 45)).push hgr ho1 (fun b h => by have h7 := hgr.size; have h8 : V4.heap.size < (V4.alloc (.cells #[.int .i64 i.op, .int .i64 i.dst, .int .i64 i.a, .int .i64 i.b, .int .i64 i.imm, .int .i64 i.callee, .slice A2 n2 k2, .int .i64 i.many] 45)).heap.size := (by simp); rw [HST.out] at h; rcases h with h | h; (have := HW4.out.st b h; omega); (have := HT.out.xa.ml; omega))); clear hgr h5 m0 m1 m2 m3 m4 f0 f1 f2 f3 f4 ml rl r0 i0' i1 i2 i3 i4 i5 i6 i7 il; obtain ⟨m0, m1, m2, m3, m4⟩ := cells5 HG.out.row; obtain ⟨f0, f1, f2, f3, f4, ml, rl, r0⟩ := HG.out.fzs))
       have hl : (l ++ [i]).length = l.length + 1 := by simp
       rw [hl] at HP
       have HLG := hide HP.out.xa.ra.rd.cur.aliveM_
       clear ho1
       go_roundw
       case rel => exact ⟨A', k', l ++ [i], St', _, hl ▸ HP.out, HGO.out, by have := HLL.out; have := HDEC.out; simp only [List.length_append, List.length_singleton]; omega⟩
       case measure => rw [HLG.out, HLE.out]; exact HDEC.out
      | false =>
       have h64 : ¬ l.length = 64 := by have := HB10.out; simp at this; omega
       have h3 : sr = s3 := by rw [← HS3.out, if_neg h64]
       subst h3
       clear h64
       go_wp2_with (first | (simp only [as_ins4]) | (go_at_call 98; (with_reducible refine HAB.out.mono ?_); rintro e _ ⟨rfl, u, rfl⟩) | (go_at_call 99; (with_reducible refine (HONE.out _ (HT.out.xa.ra.rd.ext _)).mono ?_); rintro e V ⟨_, rfl, ⟨A2, n2, k2, rfl, ho⟩, hat, hon⟩; have HWV := hide ((HT.out.ext u).call hon hat HSR.out); obtain ⟨I, hI⟩ : ∃ I, V.heap.size = I := ⟨_, rfl⟩; obtain ⟨Va, hVa⟩ : ∃ Va, V.alloc (.cells #[.int .i64 i.op, .int .i64 i.dst, .int .i64 i.a, .int .i64 i.b, .int .i64 i.imm, .int .i64 i.callee, .slice A2 n2 k2, .int .i64 i.many] 45) = Va := ⟨_, rfl⟩; have HSZ := hide (show wr.heap.size ≤ I ∧ c < wr.heap.size from ⟨(by have h7 := hon.size; rw [size_ext] at h7; omega), HT.out.xa.ra.cl⟩); have HWa := hide (show WA4 w Va R M c S1 (.slice A l.length k) zeroTerm l St sr from hVa ▸ HWV.out.alloc _); have HOa := hide (show OwnL Va wr.heap.size 3 (fun _ => False) (.slice A2 n2 k2) i.args from hVa ▸ (ho.lower28 (by rw [size_ext]; omega)).alloc _); have HRa := hide (show Va.heap[I]? = some (.cells #[.int .i64 i.op, .int .i64 i.dst, .int .i64 i.a, .int .i64 i.b, .int .i64 i.imm, .int .i64 i.callee, .slice A2 n2 k2, .int .i64 i.many] 45 (0, 0)) from hVa ▸ hI ▸ heap_alloc_new V _); clear ho hat hon m0 m1 m2 m3 m4 f0 f1 f2 f3 f4 ml rl r0; obtain ⟨m0, m1, m2, m3, m4⟩ := cells5 HWa.out.xa.row; obtain ⟨f0, f1, f2, f3, f4, ml, rl, r0⟩ := HWa.out.xa.fzs) | (go_at_call 42; (with_reducible refine (cEnd HWa.out.xa.ra.rd.cur).mono ?_); rintro e V4 ⟨rfl, hat, hon⟩; have HW4 := hide (HWa.out.call hon hat (sfx_end _)); have HO4 := hide (HOa.out.only4 hon HSZ.out.2); have HR4 := hide ((hon.block I (Array.getElem?_eq_some_iff.1 HRa.out).1 (by have := HSZ.out; omega)).trans HRa.out); clear hat hon m0 m1 m2 m3 m4 f0 f1 f2 f3 f4 ml rl r0; obtain ⟨m0, m1, m2, m3, m4⟩ := cells5 HW4.out.xa.row; obtain ⟨f0, f1, f2, f3, f4, ml, rl, r0⟩ := HW4.out.xa.fzs; obtain ⟨i0', i1, i2, i3, i4, i5, i6, i7⟩ := cells8 HR4.out; have il : I < V4.heap.size := (Array.getElem?_eq_some_iff.1 HR4.out).1; obtain ⟨St', hSt'⟩ : ∃ St' : Nat → Prop, St' = fun b => St b ∨ (wr.heap.size ≤ b ∧ b < V4.heap.size) := ⟨_, rfl⟩; have HST := hide hSt'; clear hSt') | (at_builtin; refine wpList_push (α := Ins) V4 [.int .i64 i.op, .int .i64 i.dst, .int .i64 i.a, .int .i64 i.b, .int .i64 i.imm, .int .i64 i.callee, .slice A2 n2 k2, .int .i64 i.many] 45 rfl (.tmp 57) (.tmp 59) 46 rfl (M + 1) 45 i0 _ 80 Tryz.underlying46 HI0.out HZ.out HZ1.out HZ2.out rfl (by decide) St St' (.slice A l.length k) l i rfl HW4.out.own V4.heap.size rfl rfl (Ins.mk_ HIN.out.1 HIN.out.2.1 HIN.out.2.2.1 HIN.out.2.2.2.1 HIN.out.2.2.2.2.1 HIN.out.2.2.2.2.2.1 (HO4.out.sl fun b hb h => by rw [HST.out]; rcases h with h | h; exact h.elim; exact .inr ⟨h, hb⟩) HIN.out.2.2.2.2.2.2) (fun b h => by rw [HST.out]; exact .inl h) (fun g e h => by rw [HST.out] at h; rcases h with h | h; (obtain ⟨_, _, _, h3⟩ := HW4.out.own; exact h3 g e h); (have := (HT.out.own.below_ g e).2; omega)) (fun b h => by rw [HST.out] at h; rcases h with h | h; exact (HW4.out.st b h).2; exact h.2) (by have := HLL.out; omega) (by have := HLL.out; omega) (by have := HW4.out.xa.ml; omega) ?_; intro v' W5 ho1 hgr h5; obtain ⟨A', k', hv'⟩ := ho1.form; subst hv'; have HG := hide ((HW4.out.alloc (.cells #[.int .i64 i.op, .int .i64 i.dst, .int .i64 i.a, .int .i64 i.b, .int .i64 i.imm, .int .i64 i.callee, .slice A2 n2 k2, .int .i64 i.many] 45)).xa.grown hgr (fun g e => by have := (HW4.out.own.below_ g e).1; omega)); have HP := hide ((HW4.out.alloc (.cells #[.int .i64 i.op, .int .i64 i.dst, .int .i64 i.a, .int .i64 i.b, .int .i64 i.imm, .int .i64 i.callee, .slice A2 n2 k2, .int .i64 i.many] 45)).push hgr ho1 (fun b h => by have h7 := hgr.size; have h8 : V4.heap.size < (V4.alloc (.cells #[.int .i64 i.op, .int .i64 i.dst, .int .i64 i.a, .int .i64 i.b, .int .i64 i.imm, .int .i64 i.callee, .slice A2 n2 k2, .int .i64 i.many] 45)).heap.size := (by simp); rw [HST.out] at h; rcases h with h | h; (have := HW4.out.st b h; omega); (have := HT.out.xa.ml; omega))); clear hgr h5 m0 m1 m2 m3 m4 f0 f1 f2 f3 f4 ml rl r0 i0' i1 i2 i3 i4 i5 i6 i7 il; obtain ⟨m0, m1, m2, m3, m4⟩ := cells5 HG.out.row; obtain ⟨f0, f1, f2, f3, f4, ml, rl, r0⟩ := HG.out.fzs))
       have hl : (l ++ [i]).length = l.length + 1 := by simp
       rw [hl] at HP
       have HLG := hide HP.out.xa.ra.rd.cur.aliveM_
       clear ho1
       go_roundw
       case rel => exact ⟨A', k', l ++ [i], St', _, hl ▸ HP.out, HGO.out, by have := HLL.out; have := HDEC.out; simp only [List.length_append, List.length_singleton]; omega⟩
       case measure => rw [HLG.out, HLE.out]; exact HDEC.out
end Go.Proofs.YtljglhaeonbfoaaGreatDoor
namespace Go.Proofs.YtljglhaeonbfoaaGreatDoor
open Go.RowKit
structure FB4 (w0 W : World) (C R c : Nat) (S : Nat → Prop) (vp vb : Value) (s : Cur) : Prop where
 row : W.heap[C]? = some (.cells #[vp, vb] 25 (0, 0))
 rdr : W.heap[R]? = some (.cells #[.pointer (some ⟨c, 0, none⟩)] 77 (0, 0))
 rd : Rd4 W S c s
 low : Below C w0 W
 og : 6 ≤ C
 o1 : C < c
 o2 : c < R
 o4 : ∀ b, S b → C < b ∧ b < R
section
variable {w0 W W' : World} {C R c D : Nat} {S Sp Sb Sb' : Nat → Prop} {vp vp' vb vb' : Value} {Ap : Option Addr} {np kp : Nat} {ps : List Int} {l l' : List Block} {s s' : Cur}
theorem FB4.rl (h : FB4 w0 W C R c S vp vb s) : R < W.heap.size := (Array.getElem?_eq_some_iff.1 h.rdr).1
theorem FB4.cl (h : FB4 w0 W C R c S vp vb s) : C < W.heap.size := (Array.getElem?_eq_some_iff.1 h.row).1
theorem FB4.call (h : FB4 w0 W C R c S vp vb s) (hon : Only c W W') (hat : CurAt W' S c s') (hs : SufX s s') : FB4 w0 W' C R c S vp vb s' where
 row := (hon.block C h.cl (by have := h.o1; omega)).trans h.row
 rdr := (hon.block R h.rl (by have := h.o2; omega)).trans h.rdr
 rd := h.rd.call hon hat hs
 low := h.low.trans (hon.below (by have := h.o1; omega) (by have := h.cl; omega))
 og := h.og
 o1 := h.o1
 o2 := h.o2
 o4 := h.o4
theorem FB4.ext (h : FB4 w0 W C R c S vp vb s) (u : Ext) : FB4 w0 (W.ext u) C R c S vp vb s := h.call ((Only.refl c W).ext u) (h.rd.cur.ext u) (SufX.refl s)
theorem FB4.set (h : FB4 w0 W C R c S vp vb s) {j : Nat} {x : Value} (hr : (#[vp, vb] : Array Value).setIfInBounds j x = #[vp', vb']) : FB4 w0 (W.setCell ⟨C, j, none⟩ x) C R c S vp' vb' s where
 row := by rw [row_setB h.row, hr]
 rdr := (Below.heap_setCell W ⟨C, j, none⟩ x R (by show R ≠ C; have := h.o1; have := h.o2; omega)).trans h.rdr
 rd := ⟨h.rd.cur.keep (by simp) (Below.heap_setCell W ⟨C, j, none⟩ x c (by show c ≠ C; have := h.o1; omega)) fun b hS _ => Below.heap_setCell W ⟨C, j, none⟩ x b (by show b ≠ C; have := (h.o4 b hS).1; omega), h.rd.vars.keep (by simp) fun b hb => Below.heap_setCell W ⟨C, j, none⟩ x b (by show b ≠ C; have := h.og; omega), h.rd.og, h.rd.wd⟩
 low := h.low.setCell (p := ⟨C, j, none⟩) (Nat.le_refl _) x
 og := h.og
 o1 := h.o1
 o2 := h.o2
 o4 := h.o4
theorem FB4.grown {row : Option Nat} (h : FB4 w0 W C R c S vp vb s) (hg : W.grownBy W' row) (hr : ∀ g, row = some g → R < g) : FB4 w0 W' C R c S vp vb s := by
 have hk : ∀ b, b < W.heap.size → b ≤ R → W'.heap[b]? = W.heap[b]? := fun b hb hm => hg.block b hb (fun e => by have := hr b e.symm; omega)
 have o1 := h.o1; have o2 := h.o2; have rl := h.rl; have og := h.og
 have hb0 : Below (R + 1) W W' := (Below.refl _ _).grown hg (by omega) (fun r e => hr r e)
 exact ⟨(hk C h.cl (by omega)).trans h.row, (hk R rl (Nat.le_refl _)).trans h.rdr, ⟨h.rd.cur.keep hg.size (hk c (by omega) (by omega)) (fun b hS hb => hk b hb (by have := (h.o4 b hS).2; omega)), h.rd.vars.below hb0 (by omega), h.rd.og, h.rd.wd⟩, h.low.trans (hb0.mono (by omega)), og, o1, o2, h.o4⟩
theorem FB4.facts (h : FB4 w0 W C R c S vp vb s) : W.cell? ⟨C, 0, none⟩ = some vp ∧ W.cell? ⟨C, 1, none⟩ = some vb ∧ W.cell? ⟨R, 0, none⟩ = some (.pointer (some ⟨c, 0, none⟩)) ∧ R < W.heap.size ∧ C < W.heap.size ∧ W.frozen? ⟨C, 0, none⟩ = false ∧ W.frozen? ⟨C, 1, none⟩ = false :=
 ⟨cell_of_row W C _ _ _ (0, 0) h.row, cell_of_row W C _ _ _ (0, 0) h.row, cell_of_row W R _ _ _ (0, 0) h.rdr, h.rl, h.cl, by simp [World.frozen?, h.row], by simp [World.frozen?, h.row]⟩
structure FAt4 (w0 W : World) (C R c D : Nat) (S Sp Sb : Nat → Prop) (Ap : Option Addr) (np kp : Nat) (vb : Value) (ps : List Int) (l : List Block) (s : Cur) : Prop where
 fb : FB4 w0 W C R c S (.slice Ap np kp) vb s
 pr : Sl W Sp Ap np kp ps
 ob : OwnL W (R + 1) 52 Sb vb l
 sp : ∀ b, Sp b → R < b ∧ b < D
 sb : ∀ b, Sb b → D ≤ b ∧ b < W.heap.size
 bb : ∀ b, vb.ownBlock = some b → D ≤ b
 d : D ≤ W.heap.size
 rd' : R < D
theorem FAt4.call (h : FAt4 w0 W C R c D S Sp Sb Ap np kp vb ps l s) (hon : Only c W W') (hat : CurAt W' S c s') (hs : SufX s s') : FAt4 w0 W' C R c D S Sp Sb Ap np kp vb ps l s' where
 fb := h.fb.call hon hat hs
 pr := hon.sl h.pr (fun e => by have := (h.sp c e).1; have := h.fb.o2; omega)
 ob := h.ob.keep hon.size (fun b hb hl => hon.block b hl (by have := (h.sb b hb).1; have := h.fb.o2; have := h.rd'; omega)) fun g hg => hon.block g (h.ob.below_ g hg).2 (by have := (h.ob.below_ g hg).1; have := h.fb.o2; omega)
 sp := h.sp
 sb := fun b hb => ⟨(h.sb b hb).1, Nat.lt_of_lt_of_le (h.sb b hb).2 hon.size⟩
 bb := h.bb
 d := Nat.le_trans h.d hon.size
 rd' := h.rd'
theorem FAt4.ext (h : FAt4 w0 W C R c D S Sp Sb Ap np kp vb ps l s) (u : Ext) : FAt4 w0 (W.ext u) C R c D S Sp Sb Ap np kp vb ps l s := h.call ((Only.refl c W).ext u) (h.fb.rd.cur.ext u) (SufX.refl s)
theorem FAt4.set (h : FAt4 w0 W C R c D S Sp Sb Ap np kp vb ps l s) {j : Nat} {x : Value} (hr : (#[.slice Ap np kp, vb] : Array Value).setIfInBounds j x = #[.slice Ap np kp, vb]) : FAt4 w0 (W.setCell ⟨C, j, none⟩ x) C R c D S Sp Sb Ap np kp vb ps l s where
 fb := h.fb.set hr
 pr := h.pr.setCell (fun e => by have h5 : R < C := (h.sp _ e).1; have := h.fb.o1; have := h.fb.o2; omega) _
 ob := h.ob.setCell (fun e => by have h5 : D ≤ C := (h.sb _ e).1; have := h.fb.o1; have := h.fb.o2; have := h.rd'; omega) (fun e => by have h5 : R + 1 ≤ C := (h.ob.below_ _ e).1; have := h.fb.o1; have := h.fb.o2; omega) _
 sp := h.sp
 sb := fun b hb => by have := h.sb b hb; simpa using this
 bb := h.bb
 d := by have := h.d; simpa using this
 rd' := h.rd'
theorem FAt4.again (h : FAt4 w0 W C R c D S Sp Sb Ap np kp vb ps l s) : FAt4 w0 ((W.setCell ⟨C, 0, none⟩ (.slice Ap np kp)).setCell ⟨C, 1, none⟩ vb) C R c D S Sp Sb Ap np kp vb ps l s := (h.set (j := 0) (x := .slice Ap np kp) rfl).set (j := 1) (x := vb) rfl
theorem FAt4.push (h : FAt4 w0 W C R c D S Sp Sb Ap np kp vb ps l s) (hg : W.grownBy W' vb.ownBlock) (ho : OwnL W' (R + 1) 52 Sb' vb' l') (sb : ∀ b, Sb' b → D ≤ b ∧ b < W'.heap.size) (bb : ∀ b, vb'.ownBlock = some b → D ≤ b) : FAt4 w0 (W'.setCell ⟨C, 1, none⟩ vb') C R c D S Sp Sb' Ap np kp vb' ps l' s where
 fb := (h.fb.grown hg (fun g e => (h.ob.below_ g e).1)).set rfl
 pr := (h.pr.keep hg.size fun b hb hl => hg.block b hl (fun e => by have := h.bb b e.symm; have := (h.sp b hb).2; omega)).setCell (fun e => by have h5 : R < C := (h.sp _ e).1; have := h.fb.o1; have := h.fb.o2; omega) _
 ob := ho.setCell (fun e => by have h5 : D ≤ C := (sb _ e).1; have := h.fb.o1; have := h.fb.o2; have := h.rd'; omega) (fun e => by have h5 : R + 1 ≤ C := (ho.below_ _ e).1; have := h.fb.o1; have := h.fb.o2; omega) _
 sp := h.sp
 sb := fun b hb => by have := sb b hb; simpa using this
 bb := bb
 d := by have := h.d; have := hg.size; simp; omega
 rd' := h.rd'
end
def FncP (r : Fnc × Int × Int × Int) (w : World) (e : Ending) (w' : World) : Prop :=
 ∃ A n k B m j, e = .returned (.tuple #[.agg #[.slice A n k, .slice B m j], .int .i64 r.2.1, .int .i64 r.2.2.1, .int .i64 r.2.2.2]) ∧ Sl w' (fun b => w.heap.size ≤ b) A n k r.1.params ∧ Sl w' (fun b => w.heap.size ≤ b) B m j r.1.blocks ∧ Below w.heap.size w w'
theorem results_cell_tmp3 {P : Program} {fn : Func} {p t1 t2 t3 : Tmp} {ty : TypeId} {a : Addr} {v : Value} (h : fn.results = #[.cell p ty, .tmp t1, .tmp t2, .tmp t3]) (tmps : Array Value) (w : World)
  (hp : tmps.getD p undef = .pointer (some a)) (hl : (loadVar ty a).run P w = .ok v w) : (results fn tmps).run P w = .ok (.tuple #[v, tmps.getD t1 undef, tmps.getD t2 undef, tmps.getD t3 undef]) w := by
 have hp' : tmps[p]?.getD undef = .pointer (some a) := by simpa using hp
 simp [results, h, hp', asAddr, hl]
theorem size_func4 : (Tryz.prog.info? 25).map (·.size) = some 2 := by kernel_rfl
theorem results_fn4 {fn : Func} {p t1 t2 t3 : Tmp} {g : Nat} {a1 a2 : Value} (h : fn.results = #[.cell p 25, .tmp t1, .tmp t2, .tmp t3]) (tmps : Array Value) (w : World)
  (hp : tmps.getD p undef = .pointer (some ⟨g, 0, none⟩)) (hg : w.heap[g]? = some (.cells #[a1, a2] 25 (0, 0))) : (results fn tmps).run Tryz.prog w = .ok (.tuple #[.agg #[a1, a2], tmps.getD t1 undef, tmps.getD t2 undef, tmps.getD t3 undef]) w :=
 results_cell_tmp3 h tmps w hp (run_loadVar_row w g _ _ _ (0, 0) _ hg Tryz.underlying25 rfl size_func4)
set_option maxRecDepth 100000 in
set_option maxHeartbeats 8000000 in
theorem parse04_long (s : ByteArray) (w : World) (hbig : 262144 < s.size) : Calls Tryz.prog 14 #[.string s] w (FncP (⟨[], []⟩, 0, 0, 3) w) := by
 go_enter Tryz.func14, Tryz.ntmps14
 go_wp2_with fail
 refine bodyPost_ret (results_fn4 (g := w.heap.size) (a1 := .slice none 0 0) (a2 := .slice none 0 0) Tryz.results14 _ _ rfl ?_) rfl ⟨none, 0, 0, none, 0, 0, rfl, Sl.zero_, Sl.zero_, ?_⟩
 ·exact heap_alloc_new w _
 ·exact (Below.refl _ _).alloc (Nat.le_refl _) _
theorem info_Block4 : (Tryz.prog.info? 52).map (fun i => (i.zero, i.size, i.bytes)) = some (some (.agg #[.slice none 0 0, .int .i64 0, .int .i64 0, .int .i64 0, .int .i64 0]), 5, 56) := by kernel_rfl
end Go.Proofs.YtljglhaeonbfoaaGreatDoor
namespace Go.Proofs.YtljglhaeonbfoaaGreatDoor
open Go.RowKit
def WholeI (S : Nat → Prop) (c B : Nat) (q : Block × Cur) : Post := fun v w => ∃ A n k St, v = .agg (blCs (.slice A n k) q.1.term) ∧ OwnL w B 45 St (.slice A n k) q.1.ins ∧ (∀ b, St b → B ≤ b ∧ b < w.heap.size) ∧ TermIn q.1.term ∧ CurAt w S c q.2
theorem WholeI.stable_ {F : World → Prop} {S : Nat → Prop} {c B : Nat} {q : Block × Cur} {mem : Bool} (hm : mem = true) : stable F mem (WholeI S c B q) :=
 stable_mem hm fun _ w u ⟨A, n, k, St, hv, h1, h2, h3, h4⟩ => ⟨A, n, k, St, hv, h1.ext u, fun b hb => by have := h2 b hb; rw [size_ext]; omega, h3, h4.ext u⟩
def WholeL (S : Nat → Prop) (c B : Nat) (q : Block × Cur) : Post := fun v w => ∃ g A n k St, v = .slice (some ⟨g, 0, none⟩) 1 1 ∧ B ≤ g ∧ w.heap[g]? = some (.cells (blCs (.slice A n k) q.1.term) 52 (0, 0)) ∧ OwnL w B 45 St (.slice A n k) q.1.ins ∧ (∀ b, St b → B ≤ b ∧ b < w.heap.size) ∧ TermIn q.1.term ∧ CurAt w S c q.2
theorem WholeL.stable_ {F : World → Prop} {S : Nat → Prop} {c B : Nat} {q : Block × Cur} {mem : Bool} (hm : mem = true) : stable F mem (WholeL S c B q) :=
 stable_mem hm fun _ w u ⟨g, A, n, k, St, hv, hg, h0, h1, h2, h3, h4⟩ => ⟨g, A, n, k, St, hv, hg, (by rw [ext_block w u g (Array.getElem?_eq_some_iff.1 h0).1]; exact h0), h1.ext u, fun b hb => by have := h2 b hb; rw [size_ext]; omega, h3, h4.ext u⟩
theorem len_zero4 {α : Type} (l : List α) [Decidable (l = [])] : (if (l.length : Int) = 0 then 1 else 0) = (if l = [] then 1 else 0) := by
 cases l with
 | nil => simp
 | cons x l => rw [if_neg (by rw [List.length_cons]; omega), if_neg (by simp)]
theorem fb4_start {w W0 V1 W3 : World} {C R c : Nat} {S0 : Nat → Prop} {s : Cur} (hC : w.heap.size = C) (hW0 : w.alloc (.cells #[.slice none 0 0, .slice none 0 0] 25) = W0) (hc : W0.heap.size = c) (hR : V1.heap.size = R) (hW3 : V1.alloc (.cells #[.pointer (some ⟨c, 0, none⟩)] 77) = W3) (hS0 : S0 = fun b => c < b ∧ b < R)
  (hat : CurAt V1 (fun b => W0.heap.size < b ∧ b < V1.heap.size) W0.heap.size s) (hb : Below W0.heap.size W0 V1) (hg : 6 ≤ w.heap.size) (hv : VarsP V1) (hd : Wd s) : FB4 w W3 C R c S0 (.slice none 0 0) (.slice none 0 0) s := by
 have hz : C + 1 = c := by rw [← hc, ← hW0, ← hC]; simp
 have hcR : c < R := by rw [← hc, ← hR]; exact hat.lt
 rw [hc, hR, ← hS0] at hat
 rw [hc] at hb
 refine ⟨?_, by rw [← hW3, ← hR]; exact heap_alloc_new V1 _, ⟨by rw [← hW3]; exact hat.alloc _, by rw [← hW3]; exact hv.alloc _, by omega, hd⟩, ?_, by omega, by omega, hcR, fun b h => by rw [hS0] at h; omega⟩
 ·rw [← hW3, Below.heap_alloc _ _ _ (by omega), hb.block C (by omega), ← hW0, ← hC]; exact heap_alloc_new w _
 ·have hb0 : Below C w W0 := by rw [← hW0, ← hC]; exact (Below.refl _ _).alloc (Nat.le_refl _) _
  rw [← hW3]
  exact (hb0.trans (hb.mono (by omega))).alloc (by omega) _
theorem fat4_start {w Wa V : World} {C R c : Nat} {S : Nat → Prop} {A : Option Addr} {n k : Nat} {ps : List Int} {s : Cur} (h : FB4 w V C R c S (.slice none 0 0) (.slice none 0 0) s) (ho : OwnL V Wa.heap.size 3 (fun _ => False) (.slice A n k) ps) (hs : Wa.heap.size ≤ V.heap.size) (hR : R < Wa.heap.size) :
  FAt4 w (V.setCell ⟨C, 0, none⟩ (.slice A n k)) C R c V.heap.size S (fun b => Wa.heap.size ≤ b ∧ b < V.heap.size) (fun _ => False) A n k (.slice none 0 0) ps [] s where
 fb := h.set rfl
 pr := (ho.sl (S' := fun b => Wa.heap.size ≤ b ∧ b < V.heap.size) fun b hb hh => by rcases hh with hh | hh; exact hh.elim; exact ⟨hh, hb⟩).setCell (fun e => by have h5 : Wa.heap.size ≤ C := e.1; have := h.o1; have := h.o2; omega) _
 ob := OwnL.nil_ _ _ _ _
 sp := fun b hb => ⟨by omega, hb.2⟩
 sb := fun _ h => h.elim
 bb := fun _ h => by simp [Value.ownBlock] at h
 d := by simp
 rd' := by omega
set_option maxRecDepth 100000 in
set_option maxHeartbeats 32000000 in
theorem parse04_any (s : ByteArray) (w : World) (hv : VarsP w) : Calls Tryz.prog 14 #[.string s] w (FncP (parse04 false s) w) := by
 by_cases hbig : 262144 < s.size
 ·have hg : parse04 false s = (⟨[], []⟩, 0, 0, 3) := by unfold parse04; rw [if_pos hbig]
  rw [hg]
  exact parse04_long s w hbig
 obtain ⟨i0, hi, hz, hz1, hz2⟩ := info_parts info_Block4
 have HI0 := hide hi; have HZ := hide hz; have HZ1 := hide hz1; have HZ2 := hide hz2
 clear hi hz hz1 hz2
 have hs : s.size ≤ 262144 := by omega
 have HWD := hide (wd_over s hs)
 obtain ⟨C, hC⟩ : ∃ C, w.heap.size = C := ⟨_, rfl⟩
 obtain ⟨W0, hW0⟩ : ∃ W0, w.alloc (.cells #[.slice none 0 0, .slice none 0 0] 25) = W0 := ⟨_, rfl⟩
 have HV0 := hide (show VarsP W0 from by rw [← hW0]; exact hv.alloc _)
 have HOV := hide (show Calls Tryz.prog 38 #[.string s] W0 (OverP s W0) from cOver1 s W0 (by omega) HV0.out.v)
 obtain ⟨s1, hs1⟩ : ∃ s1, keyC tFun (overT s) = s1 := ⟨_, rfl⟩
 obtain ⟨P, hP⟩ : ∃ P, someC false true ([], s1) = P := ⟨_, rfl⟩
 obtain ⟨Y, hY⟩ : ∃ Y, fnBlocksC false ([], endC P.2) = Y := ⟨_, rfl⟩
 have hp : parse04 false s = if (errC Y.2).2.2 ≠ 0 then (⟨[], []⟩, errC Y.2) else (⟨P.1, Y.1⟩, 0, 0, 0) := by
  unfold parse04 fnC
  rw [if_neg hbig]
  simp only
  rw [hs1, hP, hY]
 obtain ⟨Z, hZ⟩ : ∃ Z, parse04 false s = Z := ⟨_, rfl⟩
 rw [hZ] at hp ⊢
 have HPZ := hide hp
 clear hZ
 have HS1Q := hide hs1; have HPQ := hide hP; have HYQ := hide hY
 have HGL := hide hv.v.sz
 clear hp hs1 hP hY hv
 obtain ⟨b1, hb1⟩ : ∃ b, isC (.nm tFun) (overT s) = b := ⟨_, rfl⟩
 have HB1 := hide hb1
 clear hb1
 go_enter Tryz.func14, Tryz.ntmps14
 go_upto_if 18 with (first
  | (go_at_call 38; (with_reducible refine HOV.out.mono ?_); rintro e V1 ⟨rfl, hat, hbb⟩; have HV1 := hide (HV0.out.below hbb HV0.out.v.sz); obtain ⟨c, hc⟩ : ∃ c, W0.heap.size = c := ⟨_, rfl⟩; obtain ⟨R, hR⟩ : ∃ R, V1.heap.size = R := ⟨_, rfl⟩; obtain ⟨W3, hW3⟩ : ∃ W3, V1.alloc (.cells #[.pointer (some ⟨c, 0, none⟩)] 77) = W3 := ⟨_, rfl⟩; obtain ⟨S0, hS0⟩ : ∃ S0 : Nat → Prop, S0 = fun b => c < b ∧ b < R := ⟨_, rfl⟩; have HC0 := hide (fb4_start hC hW0 hc hR hW3 hS0 hat hbb HGL.out HV1.out HWD.out); clear hat hbb hS0; obtain ⟨c0, c1, r0, rl, cl, f0, f1⟩ := HC0.out.facts; have HK := hide (show Calls Tryz.prog 39 #[.pointer (some ⟨c, 0, none⟩), .string ⟨#[102, 117, 110]⟩] W3 (CurP S0 c W3 (overC b1 (overT s)) (.bool b1)) from by have h := cKey HC0.out.rd.cur tFun; rw [HB1.out] at h; exact h))
  | (go_at_call 39; (with_reducible refine HK.out.mono ?_); rintro e V2 ⟨rfl, hat, hon⟩; have HC2 := hide (HC0.out.call hon hat (sfx_over b1 _)); clear hat hon c0 c1 r0 rl cl f0 f1))
 clear HC0 HK HOV HV0 HV1
 obtain ⟨c0, c1, r0, rl, cl, f0, f1⟩ := HC2.out.facts
 have HCQ := hide hC
 clear hW0 hC hc hR hW3
 go_cut [] from 19 to 21 (fun wc => FB4 w wc C R c S0 (.slice none 0 0) (.slice none 0 0) s1)
 case first =>
  cases b1 with
  | true =>
   have HC3 := hide (show FB4 w V2 C R c S0 (.slice none 0 0) (.slice none 0 0) s1 from by rw [← HS1Q.out]; unfold keyC; rw [if_pos HB1.out]; exact HC2.out)
   go_wp2_with fail
   go_meet
   exact HC3.out
  | false =>
   have HF := hide (show Calls Tryz.prog 40 #[.pointer (some ⟨c, 0, none⟩), .int .i64 7] V2 (CurP S0 c V2 s1 (.tuple #[])) from by have h := cFail HC2.out.rd.cur 7; rw [← HS1Q.out]; unfold keyC; rw [if_neg (by rw [HB1.out]; decide)]; exact h)
   have HSF := hide (show SufX (overC false (overT s)) s1 from by rw [← HS1Q.out]; unfold keyC; rw [if_neg (by rw [HB1.out]; decide)]; exact sfx_fail _ _)
   go_wp2_with (first | (go_at_call 40; (with_reducible refine HF.out.mono ?_); rintro e V ⟨rfl, hat, hon⟩; have HC3 := hide (HC2.out.call hon hat HSF.out); clear hat hon))
   go_meet
   exact HC3.out
 case rest =>
  have HC3 := hide hcut
  obtain ⟨Wa, hWa⟩ : ∃ W, W = wc := ⟨_, rfl⟩
  subst hWa
  clear hcut HC2 c0 c1 r0 rl cl f0 f1 HB1
  obtain ⟨c0, c1, r0, rl, cl, f0, f1⟩ := HC3.out.facts
  have HSM := hide (show Calls Tryz.prog 41 #[rd4 c, .bool true] Wa (ListP S0 c Wa P) from HPQ.out ▸ some_any Wa S0 c s1 true HC3.out.rd)
  have HSP := hide (show SufX s1 P.2 from HPQ.out ▸ sfx_some false true ([], s1))
  go_wp2_with (first
   | (go_at_call 41; (with_reducible refine HSM.out.mono ?_); rintro e V3 ⟨Ap, np, kp, rfl, ho, hat, hon⟩; have HC4 := hide (HC3.out.call hon hat HSP.out); have HFA := hide (fat4_start HC4.out ho hon.size HC3.out.rl); clear ho hat hon c0 c1 r0 rl cl f0 f1; obtain ⟨c0, c1, r0, rl, cl, f0, f1⟩ := HC4.out.facts; obtain ⟨Y1, hY1⟩ : ∃ Y, V3.setCell ⟨C, 0, none⟩ (.slice Ap np kp) = Y := ⟨_, rfl⟩; rw [hY1] at HFA; obtain ⟨_, _, y0, yl, _, _, _⟩ := HFA.out.fb.facts)
   | (go_at_call 42; (with_reducible refine (cEnd HFA.out.fb.rd.cur).mono ?_); rintro e V4 ⟨rfl, hat, hon⟩; have HA1 := hide (HFA.out.call hon hat (sfx_end _)); clear hat hon))
  clear c0 c1 r0 rl cl f0 f1 HC3 HC4 HSM hY1 y0 yl HFA
  obtain ⟨D, hD⟩ : ∃ D, V3.heap.size = D := ⟨_, rfl⟩
  obtain ⟨Sp, hSp⟩ : ∃ Sp : Nat → Prop, Sp = fun b => Wa.heap.size ≤ b ∧ b < D := ⟨_, rfl⟩
  rw [hD, ← hSp] at HA1
  clear hD hSp
  go_loopw [7] (fun i wr => ∃ (B : Option Addr) (j : Nat) (l : List Block) (Sb : Nat → Prop) (s' : Cur), i = .int .i64 l.length ∧ FAt4 w wr C R c D S0 Sp Sb Ap np kp (.slice B l.length j) P.1 l s' ∧ fnBlocksC false (l, s') = Y ∧ l.length + fnM (l, s') ≤ 1099511627780) (fun i wr => aliveM c wr + (if intOf i = 0 then 1 else 0))
  case atStart => exact ⟨none, 0, [], _, _, rfl, HA1.out, HYQ.out, by have := HA1.out.fb.rd.wd.alive; unfold fnM; simp only [List.length_nil, if_true]; omega⟩
  case round =>
   obtain ⟨B, j, l, Sb, s', rfl, ht, hx, hll⟩ := hrel
   have HT := hide ht; have HXX := hide hx; have HLL := hide hll
   have HLE := hide ht.fb.rd.cur.aliveM_
   obtain ⟨c0, c1, r0, rl, cl, f0, f1⟩ := ht.fb.facts
   clear ht hx hll HA1
   have HMO := hide (cMore HT.out.fb.rd.cur)
   obtain ⟨mo, hmo⟩ : ∃ b, moreC s' = b := ⟨_, rfl⟩
   rw [hmo] at HMO
   obtain ⟨bz, hbz⟩ : ∃ b, ((l.length : Int) == 0) = b := ⟨_, rfl⟩
   have HBZ := hide (show bz = true ↔ l = [] from by rw [← hbz]; simp)
   have HMQ := hide hmo
   clear hmo
   by_cases hgo : (bz || mo) = true
   ·have hcond : l = [] ∨ moreC s' = true := by
     rw [HMQ.out]
     cases bz with
     | true => exact .inl (HBZ.out.1 rfl)
     | false => exact .inr (by simpa using hgo)
    obtain ⟨q, hq⟩ : ∃ q, wholeC false l.length s' = q := ⟨_, rfl⟩
    have hstep : blocksG false (l, s') = some (l ++ [q.1], q.2) := by
     unfold blocksG
     rw [if_pos hcond]
     simp only
     rw [hq]
    have HGO := hide (show fnBlocksC false (l ++ [q.1], q.2) = Y from by rw [← HXX.out, fnBlocksC_go hstep])
    have HDEC := hide (show fnM (l ++ [q.1], q.2) < fnM (l, s') from blocksG_dec _ _ hstep)
    have HWH := hide (fun (W : World) (h : Rd4 W S0 c s') => show Calls Tryz.prog 44 #[rd4 c, .int .i64 l.length] W (WholeP S0 c W q) from hq ▸ whole_any W S0 c s' l.length (by have := HLL.out; omega) h)
    have HSQ := hide (show SufX s' q.2 from hq ▸ sfx_whole false l.length s')
    clear hq hstep hcond
    cases bz with
    | true =>
     go_wp2_with fail
     have hcC : C ≠ c := by have := HT.out.fb.o1; omega
     have hcR : R ≠ c := by have := HT.out.fb.o2; omega
     obtain ⟨E, hE⟩ : ∃ E, wr.heap.size = E := ⟨_, rfl⟩
     have HEQ := hide hE
     clear hE
     refine wp_region_cur c [4] [4, 5] 6 (by kernel_rfl) rfl (by kernel_rfl) (by kernel_rfl) ?_
     simp only [List.take_succ_cons, List.take_zero, List.drop_succ_cons, List.drop_zero]
     repeat (refine flowG_known (by kernel_rfl) (fun K hK => ?_); go_simp; (first | (refine hK _ ?_; clear hK K) | (apply Exists.intro; refine ⟨fun w' => ?_, hK _ ?_⟩; (fail); clear hK K)))
     refine flowG_knownF (by kernel_rfl) (fun K hK => ⟨.slice B l.length j, fun W' hW' => ?_, hK _ ?_⟩)
     ·have x0 : W'.cell? ⟨C, 1, none⟩ = some (.slice B l.length j) := (World.cell?_of_block (hW'.block C cl hcC)).trans c1
      have x1 : C < W'.heap.size := Nat.lt_of_lt_of_le cl hW'.size
      go_simp
     clear hK K
     refine flowG_knownF (by kernel_rfl) (fun K hK => ⟨.agg #[.pointer (some ⟨c, 0, none⟩)], fun W' hW' => ?_, hK _ ?_⟩)
     ·have x0 : W'.cell? ⟨R, 0, none⟩ = some (.pointer (some ⟨c, 0, none⟩)) := (World.cell?_of_block (hW'.block R rl hcR)).trans r0
      have x1 : R < W'.heap.size := Nat.lt_of_lt_of_le rl hW'.size
      go_simp
     clear hK K
     repeat (refine flowG_known (by kernel_rfl) (fun K hK => ?_); go_simp; (first | (refine hK _ ?_; clear hK K) | (apply Exists.intro; refine ⟨fun w' => ?_, hK _ ?_⟩; (fail); clear hK K)))
     refine flowG_keep [] (WholeI S0 c E q) (by kernel_rfl) (WholeI.stable_ rfl) (by kernel_rfl) (fun u hF => ?_) ?_
     ·try simp only [List.nil_append, List.cons_append, useH_f, useH_t, useH_nil]
      go_simp
      refine (HWH.out _ (HT.out.fb.rd.ext u)).mono ?_
      rintro e w' ⟨A1, n1, k1, St1, rfl, ho1, hs1, hti, hat, hon⟩
      exact ⟨_, rfl, ⟨A1, n1, k1, St1, rfl, ho1.lower28 (by rw [size_ext]; have := HEQ.out; omega), fun b hb => by have h1 := hs1 b hb; rw [size_ext] at h1; have := HEQ.out; omega, hti, hat⟩, hF.trans hon, fun h => by cases h⟩
     refine flowG_keepF [true] (WholeL S0 c E q) (by kernel_rfl) (WholeL.stable_ rfl) (fun W' hW' => ?_) ?_
     ·try simp only [List.nil_append, List.cons_append, useH_f, useH_t, useH_nil]
      rintro _ ⟨A1, n1, k1, St1, rfl, ho1, hs1, hti, hat⟩
      go_simp
      exact ⟨⟨_, A1, n1, k1, St1, rfl, (by have := HEQ.out; have := hW'.size; omega), heap_alloc_new W' _, ho1.alloc _, fun b hb => by have := hs1 b hb; simp; omega, hti, hat.alloc _⟩, hW'.alloc _, fun _ => ext_alloc W' _⟩
     refine flowG_done [true, true] (by kernel_rfl) (fun W' hW' => ?_)
     simp only [List.nil_append, List.cons_append, endH_f, endH_t, endH_nil]
     rintro _ - _ ⟨g, A1, n1, k1, St1, rfl, hg, hrow, ho1, hst1, hti, hat⟩
     go_simp
     have HT7 := hide (HT.out.call hW' hat HSQ.out)
     have HRW := hide hrow; have HO1 := hide ho1; have HGB := hide hg; have HS1 := hide hst1; have HTI := hide hti
     have HSW := hide hW'.size
     clear c0 c1 r0 rl cl f0 f1 hcC hcR hat hrow ho1 hg hst1 hti
     obtain ⟨Sb', hSb'⟩ : ∃ Sb' : Nat → Prop, Sb' = fun b => Sb b ∨ (E ≤ b ∧ b < W'.heap.size) := ⟨_, rfl⟩
     have HST := hide hSb'
     clear hSb'
     refine wpList_push_at (α := Block) W' rfl (.tmp 38) (.tmp 42) 23 rfl (R + 1) 52 i0 _ 56 Tryz.underlying23 HI0.out HZ.out HZ1.out HZ2.out rfl (by decide) Sb Sb' (.slice B l.length j) l [q.1] rfl HT7.out.ob ⟨g, 0, none⟩ 1 1 [.slice A1 n1 k1, .int .i64 q.1.term.kind, .int .i64 q.1.term.a, .int .i64 q.1.term.to0, .int .i64 q.1.term.to1] rfl rfl
      (RepL.single (Block.mk_ (HO1.out.sl fun b hb h => by rw [HST.out]; rcases h with h | h; exact .inr (HS1.out b h); exact .inr ⟨h, hb⟩) HTI.out.1 HTI.out.2.1 HTI.out.2.2.1 HTI.out.2.2.2))
      (fun j u hj => lit_news (us := [.slice A1 n1 k1, .int .i64 q.1.term.kind, .int .i64 q.1.term.a, .int .i64 q.1.term.to0, .int .i64 q.1.term.to1]) HRW.out j u hj)
      (fun b _ h => by rw [HST.out]; exact .inl h)
      (fun x hx h => by
       rw [HST.out] at h
       rcases h with h | h
       ·obtain ⟨_, _, _, h3⟩ := HT7.out.ob
        exact h3 x hx h
       ·have := (HT.out.ob.below_ x hx).2; have := HEQ.out; omega)
      (fun b h => by
       rw [HST.out] at h
       rcases h with h | h
       ·exact (HT7.out.sb b h).2
       ·exact h.2)
      (by have := HLL.out; unfold maxLen; omega) (by have := HLL.out; omega) (by have := HT7.out.fb.rl; omega) ?_
     intro v' W2 ho2 hgr h5
     obtain ⟨A', k', hv'⟩ := ho2.form
     subst hv'
     have hl : (l ++ [q.1]).length = l.length + 1 := by simp
     have HBG := hide (HT7.out.fb.grown hgr (fun x e => (HT7.out.ob.below_ x e).1))
     have HTG := hide (HT7.out.push hgr ho2 (fun b h => by
       rw [HST.out] at h
       have := hgr.size
       rcases h with h | h
       ·have h1 := HT7.out.sb b h; omega
       ·have := HT.out.d; have := HEQ.out; omega)
      (fun b e => by
       rcases h5 with h5 | h5
       ·exact HT7.out.bb b (h5 ▸ e)
       ·rw [h5] at e; injection e with e; have := HT7.out.d; omega))
     clear ho2 hgr h5
     rw [hl] at HTG ⊢
     obtain ⟨c0, c1, r0, rl, cl, f0, f1⟩ := HBG.out.facts
     obtain ⟨Y3, hY3⟩ : ∃ Y, W2.setCell ⟨C, 1, none⟩ (.slice A' (l.length + 1) k') = Y := ⟨_, rfl⟩
     rw [hY3] at HTG
     have hlw : IntKind.i64.wrap ((l.length : Int) + 1) = (l.length : Int) + 1 := IntWalk.i64_in _ (by have := HLL.out; omega)
     go_wp2_with fail
     try rw [hY3]
     have HLY := hide HTG.out.fb.rd.cur.aliveM_
     clear hY3
     go_roundw
     case rel => exact ⟨A', k', l ++ [q.1], Sb', q.2, by rw [hl]; go_num, hl ▸ HTG.out, HGO.out, by have := HLL.out; have := HDEC.out; rw [hl]; omega⟩
     case measure =>
      have hd := HDEC.out
      unfold fnM at hd
      rw [if_neg (by simp)] at hd
      have hz : (if intOf (Value.int IntKind.i64 (l.length : Int)) = 0 then 1 else 0) = (if l = [] then 1 else 0) := len_zero4 l
      rw [HLY.out, HLE.out, hz]
      show (aliveC q.2 + if (l.length : Int) + 1 = 0 then 1 else 0) < _
      rw [if_neg (by omega)]
      exact hd
    | false =>
     have hmt : mo = true := by simpa using hgo
     subst hmt
     go_wp2_with (first | (go_at_call 43; (with_reducible refine HMO.out.mono ?_); rintro e _ ⟨rfl, rfl⟩))
     have hcC : C ≠ c := by have := HT.out.fb.o1; omega
     have hcR : R ≠ c := by have := HT.out.fb.o2; omega
     obtain ⟨E, hE⟩ : ∃ E, wr.heap.size = E := ⟨_, rfl⟩
     have HEQ := hide hE
     clear hE
     refine wp_region_cur c [4] [4, 5] 6 (by kernel_rfl) rfl (by kernel_rfl) (by kernel_rfl) ?_
     simp only [List.take_succ_cons, List.take_zero, List.drop_succ_cons, List.drop_zero]
     repeat (refine flowG_known (by kernel_rfl) (fun K hK => ?_); go_simp; (first | (refine hK _ ?_; clear hK K) | (apply Exists.intro; refine ⟨fun w' => ?_, hK _ ?_⟩; (fail); clear hK K)))
     refine flowG_knownF (by kernel_rfl) (fun K hK => ⟨.slice B l.length j, fun W' hW' => ?_, hK _ ?_⟩)
     ·have x0 : W'.cell? ⟨C, 1, none⟩ = some (.slice B l.length j) := (World.cell?_of_block (hW'.block C cl hcC)).trans c1
      have x1 : C < W'.heap.size := Nat.lt_of_lt_of_le cl hW'.size
      go_simp
     clear hK K
     refine flowG_knownF (by kernel_rfl) (fun K hK => ⟨.agg #[.pointer (some ⟨c, 0, none⟩)], fun W' hW' => ?_, hK _ ?_⟩)
     ·have x0 : W'.cell? ⟨R, 0, none⟩ = some (.pointer (some ⟨c, 0, none⟩)) := (World.cell?_of_block (hW'.block R rl hcR)).trans r0
      have x1 : R < W'.heap.size := Nat.lt_of_lt_of_le rl hW'.size
      go_simp
     clear hK K
     repeat (refine flowG_known (by kernel_rfl) (fun K hK => ?_); go_simp; (first | (refine hK _ ?_; clear hK K) | (apply Exists.intro; refine ⟨fun w' => ?_, hK _ ?_⟩; (fail); clear hK K)))
     refine flowG_keep [] (WholeI S0 c E q) (by kernel_rfl) (WholeI.stable_ rfl) (by kernel_rfl) (fun u hF => ?_) ?_
     ·try simp only [List.nil_append, List.cons_append, useH_f, useH_t, useH_nil]
      go_simp
      refine (HWH.out _ (HT.out.fb.rd.ext u)).mono ?_
      rintro e w' ⟨A1, n1, k1, St1, rfl, ho1, hs1, hti, hat, hon⟩
      exact ⟨_, rfl, ⟨A1, n1, k1, St1, rfl, ho1.lower28 (by rw [size_ext]; have := HEQ.out; omega), fun b hb => by have h1 := hs1 b hb; rw [size_ext] at h1; have := HEQ.out; omega, hti, hat⟩, hF.trans hon, fun h => by cases h⟩
     refine flowG_keepF [true] (WholeL S0 c E q) (by kernel_rfl) (WholeL.stable_ rfl) (fun W' hW' => ?_) ?_
     ·try simp only [List.nil_append, List.cons_append, useH_f, useH_t, useH_nil]
      rintro _ ⟨A1, n1, k1, St1, rfl, ho1, hs1, hti, hat⟩
      go_simp
      exact ⟨⟨_, A1, n1, k1, St1, rfl, (by have := HEQ.out; have := hW'.size; omega), heap_alloc_new W' _, ho1.alloc _, fun b hb => by have := hs1 b hb; simp; omega, hti, hat.alloc _⟩, hW'.alloc _, fun _ => ext_alloc W' _⟩
     refine flowG_done [true, true] (by kernel_rfl) (fun W' hW' => ?_)
     simp only [List.nil_append, List.cons_append, endH_f, endH_t, endH_nil]
     rintro _ - _ ⟨g, A1, n1, k1, St1, rfl, hg, hrow, ho1, hst1, hti, hat⟩
     go_simp
     have HT7 := hide (HT.out.call hW' hat HSQ.out)
     have HRW := hide hrow; have HO1 := hide ho1; have HGB := hide hg; have HS1 := hide hst1; have HTI := hide hti
     have HSW := hide hW'.size
     clear c0 c1 r0 rl cl f0 f1 hcC hcR hat hrow ho1 hg hst1 hti
     obtain ⟨Sb', hSb'⟩ : ∃ Sb' : Nat → Prop, Sb' = fun b => Sb b ∨ (E ≤ b ∧ b < W'.heap.size) := ⟨_, rfl⟩
     have HST := hide hSb'
     clear hSb'
     refine wpList_push_at (α := Block) W' rfl (.tmp 38) (.tmp 42) 23 rfl (R + 1) 52 i0 _ 56 Tryz.underlying23 HI0.out HZ.out HZ1.out HZ2.out rfl (by decide) Sb Sb' (.slice B l.length j) l [q.1] rfl HT7.out.ob ⟨g, 0, none⟩ 1 1 [.slice A1 n1 k1, .int .i64 q.1.term.kind, .int .i64 q.1.term.a, .int .i64 q.1.term.to0, .int .i64 q.1.term.to1] rfl rfl
      (RepL.single (Block.mk_ (HO1.out.sl fun b hb h => by rw [HST.out]; rcases h with h | h; exact .inr (HS1.out b h); exact .inr ⟨h, hb⟩) HTI.out.1 HTI.out.2.1 HTI.out.2.2.1 HTI.out.2.2.2))
      (fun j u hj => lit_news (us := [.slice A1 n1 k1, .int .i64 q.1.term.kind, .int .i64 q.1.term.a, .int .i64 q.1.term.to0, .int .i64 q.1.term.to1]) HRW.out j u hj)
      (fun b _ h => by rw [HST.out]; exact .inl h)
      (fun x hx h => by
       rw [HST.out] at h
       rcases h with h | h
       ·obtain ⟨_, _, _, h3⟩ := HT7.out.ob
        exact h3 x hx h
       ·have := (HT.out.ob.below_ x hx).2; have := HEQ.out; omega)
      (fun b h => by
       rw [HST.out] at h
       rcases h with h | h
       ·exact (HT7.out.sb b h).2
       ·exact h.2)
      (by have := HLL.out; unfold maxLen; omega) (by have := HLL.out; omega) (by have := HT7.out.fb.rl; omega) ?_
     intro v' W2 ho2 hgr h5
     obtain ⟨A', k', hv'⟩ := ho2.form
     subst hv'
     have hl : (l ++ [q.1]).length = l.length + 1 := by simp
     have HBG := hide (HT7.out.fb.grown hgr (fun x e => (HT7.out.ob.below_ x e).1))
     have HTG := hide (HT7.out.push hgr ho2 (fun b h => by
       rw [HST.out] at h
       have := hgr.size
       rcases h with h | h
       ·have h1 := HT7.out.sb b h; omega
       ·have := HT.out.d; have := HEQ.out; omega)
      (fun b e => by
       rcases h5 with h5 | h5
       ·exact HT7.out.bb b (h5 ▸ e)
       ·rw [h5] at e; injection e with e; have := HT7.out.d; omega))
     clear ho2 hgr h5
     rw [hl] at HTG ⊢
     obtain ⟨c0, c1, r0, rl, cl, f0, f1⟩ := HBG.out.facts
     obtain ⟨Y3, hY3⟩ : ∃ Y, W2.setCell ⟨C, 1, none⟩ (.slice A' (l.length + 1) k') = Y := ⟨_, rfl⟩
     rw [hY3] at HTG
     have hlw : IntKind.i64.wrap ((l.length : Int) + 1) = (l.length : Int) + 1 := IntWalk.i64_in _ (by have := HLL.out; omega)
     go_wp2_with fail
     try rw [hY3]
     have HLY := hide HTG.out.fb.rd.cur.aliveM_
     clear hY3
     go_roundw
     case rel => exact ⟨A', k', l ++ [q.1], Sb', q.2, by rw [hl]; go_num, hl ▸ HTG.out, HGO.out, by have := HLL.out; have := HDEC.out; rw [hl]; omega⟩
     case measure =>
      have hd := HDEC.out
      unfold fnM at hd
      rw [if_neg (by simp)] at hd
      have hz : (if intOf (Value.int IntKind.i64 (l.length : Int)) = 0 then 1 else 0) = (if l = [] then 1 else 0) := len_zero4 l
      rw [HLY.out, HLE.out, hz]
      show (aliveC q.2 + if (l.length : Int) + 1 = 0 then 1 else 0) < _
      rw [if_neg (by omega)]
      exact hd
   ·have hbf : bz = false := by cases bz <;> simp at hgo ⊢
    have hmf : mo = false := by cases mo <;> simp at hgo ⊢
    subst hbf hmf
    have HY1 := hide (show Y = (l, s') from by
     rw [← HXX.out]
     refine fnBlocksC_stop (if_neg ?_)
     rintro (h | h)
     ·have := HBZ.out.2 h; cases this
     ·simp only at h; rw [HMQ.out] at h; cases h)
    clear hgo
    obtain ⟨⟨el, ec, ee⟩, he9⟩ : ∃ x, errC s' = x := ⟨_, rfl⟩
    have HZZ := hide (show Z = if ee ≠ 0 then (⟨[], []⟩, el, ec, ee) else (⟨P.1, l⟩, 0, 0, 0) from by rw [HPZ.out, HY1.out]; simp only; rw [he9])
    have HER := hide (show Calls Tryz.prog 45 #[.pointer (some ⟨c, 0, none⟩)] wr (RetX (.tuple #[.int .i64 el, .int .i64 ec, .int .i64 ee]) wr) from by have h := cErr HT.out.fb.rd.cur; unfold errV at h; rw [he9] at h; exact h)
    clear he9
    by_cases hee : ee = 0
    ·have heb : (ee != 0) = false := by simp [hee]
     have HZE := hide (show Z = (⟨P.1, l⟩, 0, 0, 0) from by rw [HZZ.out, if_neg (by simpa using hee)])
     clear hee
     go_wp2_with (first | (go_at_call 43; (with_reducible refine HMO.out.mono ?_); rintro e _ ⟨rfl, rfl⟩) | (go_at_call 45; (with_reducible refine HER.out.mono ?_); rintro e _ ⟨rfl, u9, rfl⟩))
     have HTZ := hide (HT.out.again.ext u9)
     refine bodyPost_ret (results_fn4 Tryz.results14 _ _ rfl HTZ.out.fb.row) rfl ?_
     rw [HZE.out]
     have hC := HCQ.out
     exact ⟨Ap, np, kp, B, l.length, j, rfl, HTZ.out.pr.more fun b _ h => by have := HTZ.out.sp b h; have := HTZ.out.fb.o1; have := HTZ.out.fb.o2; omega, HTZ.out.ob.sl fun b _ h => by have := HTZ.out.fb.o1; have := HTZ.out.fb.o2; have := HTZ.out.rd'; rcases h with h | h; (have := (HTZ.out.sb b h).1; omega); omega, hC ▸ HTZ.out.fb.low⟩
    ·have heb : (ee != 0) = true := by simpa using hee
     have HZE := hide (show Z = (⟨[], []⟩, el, ec, ee) from by rw [HZZ.out, if_pos hee])
     clear hee
     go_wp2_with (first | (go_at_call 43; (with_reducible refine HMO.out.mono ?_); rintro e _ ⟨rfl, rfl⟩) | (go_at_call 45; (with_reducible refine HER.out.mono ?_); rintro e _ ⟨rfl, u9, rfl⟩))
     have HTZ := hide (((HT.out.fb.set (j := 0) (x := .slice none 0 0) rfl).set (j := 1) (x := .slice none 0 0) rfl).ext u9)
     refine bodyPost_ret (results_fn4 Tryz.results14 _ _ rfl HTZ.out.row) rfl ?_
     rw [HZE.out]
     have hC := HCQ.out
     exact ⟨none, 0, 0, none, 0, 0, rfl, Sl.zero_, Sl.zero_, hC ▸ HTZ.out.low⟩
end Go.Proofs.YtljglhaeonbfoaaGreatDoor
