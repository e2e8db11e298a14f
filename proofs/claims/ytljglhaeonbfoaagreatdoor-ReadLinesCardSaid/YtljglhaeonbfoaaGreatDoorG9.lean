/- The document's Read: the walk. law01: same, awake, IsName; the program's and the document's. law01: the document's IsName; same, awake. law01: awake, WordReads: the walks. -/
import Derived.Test.YtljglhaeonbfoaaGreatDoorG7
import Derived.Test.YtljglhaeonbfoaaGreatDoorG8
set_option linter.unusedSimpArgs false
set_option linter.unusedVariables false
namespace Go.Proofs.YtljglhaeonbfoaaGreatDoor
open Go.RowKit
theorem takeWhile_take {p : Int → Bool} : ∀ l : List Int, l.take (l.takeWhile p).length = l.takeWhile p
 | [] => rfl
 | c :: l => by
  rw [List.takeWhile_cons]
  split
  ·rw [List.length_cons, List.take_succ_cons, takeWhile_take l]
  ·rfl
theorem numT_take {l : List Int} (h : 0 < numLen l) : NumT (l.take (numLen l)) ∧ numLen l ≤ l.length := by
 cases l with
 | nil => exact absurd h (by decide)
 | cons c t =>
  rw [numLen_cons] at h ⊢
  by_cases hc : c = 45
  ·rw [if_pos hc] at h ⊢
   by_cases h0 : (t.takeWhile isD).length = 0
   ·rw [if_pos h0] at h; omega
   ·rw [if_neg h0]
    refine ⟨⟨t.takeWhile isD, fun e => h0 (by rw [e]; rfl), takeWhile_mem t, .inr ?_⟩, ?_⟩
    ·rw [List.take_succ_cons, takeWhile_take, hc]
    ·have := (List.takeWhile_prefix isD (l := t)).length_le; simp; omega
  ·rw [if_neg hc] at h ⊢
   refine ⟨⟨(c :: t).takeWhile isD, fun e => by rw [e] at h; exact absurd h (by decide), takeWhile_mem _, .inl (takeWhile_take _)⟩, ?_⟩
   exact (List.takeWhile_prefix isD (l := c :: t)).length_le
theorem head_at (s : ByteArray) (j : Nat) : headL (items s j) = (decide (0 < (atR s j).2) && isL (atR s j).1) := by
 by_cases hp : j < s.size
 ·cases hg : goodAt s j with
  | true =>
   have hw := Lib.decode_width_pos s j hp
   rw [items_good hp hg, atR_good hp hg]
   show isL _ = _
   rw [show decide (0 < (Utf8.decode s j).2) = true by simp; omega, Bool.true_and]
  | false => rw [items_bad hp hg, atR_bad hg]; decide
 ·rw [items_end hp, atR_out hp]; decide
theorem blk_two (w : World) (o o2 : Obj) : ((w.alloc o).alloc o2).heap[w.heap.size]? = some o := by
 rw [Below.heap_alloc _ _ _ (by simp)]; exact heap_alloc_new w _
theorem blk_two' (w : World) (o o2 : Obj) : ((w.alloc o).alloc o2).drew.heap[w.heap.size]? = some o := blk_two w o o2
theorem encode_ge (c : Int) : 1 ≤ (Utf8.encode c).size := by
 unfold Utf8.encode
 simp only
 repeat' split
 all_goals simp [ByteArray.size]
theorem rb_le : ∀ t : List Int, t.length ≤ (runesBytes t).size
 | [] => Nat.zero_le _
 | c :: t => by
  rw [runesBytes_cons, ByteArray.size_append, List.length_cons]
  have := rb_le t; have := encode_ge c; omega
theorem word_is (w : World) (S : Nat → Prop) (k n line col : Int) (text : ByteArray) (h0 : InI k) (h1 : text.size ≤ maxLen) (h2 : InI n) (h3 : InI line) (h4 : InI col) : Rep.is w S (⟨k, text, n, line, col⟩ : Word) [.int .i64 k, .string text, .int .i64 n, .int .i64 line, .int .i64 col] :=
 Word.mk_ (x := ⟨k, text, n, line, col⟩) h0 h1 h2 h3 h4
theorem info_Word1 : (Tryz.prog.info? 137).map (fun i => (i.zero, i.size, i.bytes)) = some (some (.agg #[.int .i64 0, .string ⟨#[]⟩, .int .i64 0, .int .i64 0, .int .i64 0]), 5, 48) := by kernel_rfl
set_option maxRecDepth 100000 in
set_option maxHeartbeats 40000000 in
theorem read1_any (s : ByteArray) (w : World) (hs : s.size ≤ 17179869184) : Calls Tryz.prog 100 #[.string s] w (RetRd w (refL ((items s 0).length + 1) 1 1 false (items s 0) [])) := by
 obtain ⟨i0, hi, hz, hz1, hz2⟩ := info_parts info_Word1
 have HI0 := hide hi; have HZ := hide hz; have HZ1 := hide hz1; have HZ2 := hide hz2
 clear hi hz hz1 hz2
 obtain ⟨R0, hR0⟩ : ∃ R0, refL ((items s 0).length + 1) 1 1 false (items s 0) [] = R0 := ⟨_, rfl⟩
 rw [hR0]
 have HR0 := hide hR0; clear hR0
 go_enter Tryz.func100, Tryz.ntmps100
 go_wp2_with fail
 go_loopw [6, 7, 8, 9, 10] (fun v a b c d wr => ∃ (pos f : Nat) (line col : Int) (rem : Bool) (acc : List Word) (Ao : Option Addr) (no co : Nat), v = .slice Ao no co ∧ a = .int .i64 line ∧ b = .int .i64 col ∧ c = .bool rem ∧ d = .int .i64 pos ∧ OwnL wr w.heap.size 137 (fun _ => False) (.slice Ao no co) acc ∧ Below w.heap.size w wr ∧ refL f line col rem (items s pos) acc = R0 ∧ (items s pos).length < f ∧ 0 ≤ line ∧ line ≤ pos + 1 ∧ 0 ≤ col ∧ col ≤ pos + 1 ∧ acc.length ≤ pos ∧ pos ≤ s.size) (fun _ _ _ _ d _ => s.size - (intOf d).toNat)
 case atStart => exact ⟨0, _, 1, 1, false, [], none, 0, 0, rfl, rfl, rfl, rfl, rfl, OwnL.nil_ _ _ _ _, Below.refl _ _, HR0.out, Nat.lt_succ_self _, by decide, by decide, by decide, by decide, Nat.le_refl _, Nat.zero_le _⟩
 case round =>
  obtain ⟨pos, f, line, col, rem, acc, Ao, no, co, rfl, rfl, rfl, rfl, rfl, hown, hbw, href, hlf, hl0, hl1, hc0, hc1, hacc, hps⟩ := hrel
  have HO := hide hown; have HB := hide hbw; have HREF := hide href; have HLF := hide hlf; have HACC := hide hacc
  have hsz : w.heap.size ≤ wr.heap.size := hbw.size
  have HVO := hide (fun g hg => hown.below_ g hg)
  clear href hlf hacc hown hbw
  by_cases hp : pos < s.size
  ·have HAT := hide (at_any s pos wr (by omega) (by omega))
   obtain ⟨g, hf⟩ : ∃ g, f = g + 1 := ⟨f - 1, by have := HLF.out; omega⟩
   subst hf
   cases hg : goodAt s pos
   ·have hb := atR_bad hg
    rw [hb] at HAT
    have hi := items_bad hp hg
    have HFIN := hide (show R0 = errR line col 6 by rw [← HREF.out, hi, refL_cons, if_pos (by decide)])
    clear hb hg hi
    go_wp2_with (first | (go_at_call 146; refine HAT.out.mono ?_; rintro e w' ⟨rfl, rfl⟩))
    refine bodyPost_ret (results_tmp4 rfl _ _ _) rfl ?_
    rw [HFIN.out]
    exact ⟨none, 0, 0, rfl, Sl.nil, HB.out.to_ext⟩
   ·have hb := atR_good hp hg
    rw [hb] at HAT
    have hig := items_good hp hg
    have hnn : ∀ n : Nat, ¬ ((n : Int) < 0) := fun n => by omega
    have HI := hide hig
    have HW := hide (Lib.decode_width_pos s pos hp); have HWL := hide (width_le hp)
    have HEW := hide (encode_width hp hg)
    have HEX := hide (show s.extract pos (pos + (Utf8.decode s pos).2) = Utf8.encode ((Utf8.decode s pos).1 : Int) by
     apply bytes_ext; rw [encode_decode hp hg, extract_list]; congr 1; omega)
    generalize hr : (Utf8.decode s pos).1 = r at HI HEW HEX
    generalize hwd : (Utf8.decode s pos).2 = wd at HI HW HWL HEW HEX
    have HAT' := hide (show Calls Tryz.prog 146 #[.string s, .int .i64 pos] wr (RetAt (r, wd) wr) by rw [← hr, ← hwd]; exact HAT.out)
    clear hr hwd HAT hb hg hig
    have hw1 := HW.out; have hw2 := HWL.out
    have hwz : ((wd : Int) == 0) = false := by simp; omega
    have HREF1 := hide (show refL (g + 1) line col rem ((r : Int) :: items s (pos + wd)) acc = R0 by rw [← HI.out]; exact HREF.out)
    have HLF1 := hide (show (items s (pos + wd)).length < g by have := HLF.out; rw [HI.out] at this; simp at this; omega)
    have hr0 : (0 : Int) ≤ r := by omega
    cases h10 : ((r : Int) == 10)
    ·have hn10 : ¬ ((r : Int) = 10) := by simpa using h10
     have HN10 := hide hn10; clear hn10
     have hskip : ∀ rem' : Bool, rem' = (rem || ((r : Int) == 59)) → (rem = true ∨ isB r = true ∨ (r : Int) = 59) → refL g line (col + 1) rem' (items s (pos + wd)) acc = R0 := fun rem' he hc => by rw [← HREF1.out, refL_cons, if_neg (by omega), if_neg HN10.out, if_pos hc, he]
     have HSK := hide hskip; clear hskip
     by_cases hsk : rem = true ∨ isB r = true ∨ (r : Int) = 59
     ·have HSKC := hide hsk
      cases rem
      ·cases hB : isB r
       ·have h59 : ((r : Int) == 59) = true := by rcases hsk with h | h | h; cases h; rw [hB] at h; cases h; simpa using h
        clear hsk
        have HS := hide (HSK.out true (by rw [h59]; rfl) HSKC.out)
        clear HSK HSKC HREF1
        go_wp2_with (first | (go_at_call 146; refine HAT'.out.mono ?_; rintro e w' ⟨rfl, rfl⟩) | (go_at_call 147; (with_reducible refine (blank1_any _ _).mono ?_); rintro e w' ⟨rfl, rfl⟩))
        go_roundw
        case rel => exact ⟨pos + wd, g, line, col + 1, true, acc, Ao, no, co, rfl, rfl, rfl, rfl, by go_num, HO.out, HB.out, HS.out, HLF1.out, hl0, by omega, by omega, by omega, by have := HACC.out; omega, hw2⟩
        case measure => simp [intOf]; omega
       ·clear hsk
        cases h59 : ((r : Int) == 59)
        ·have HS := hide (HSK.out false (by rw [h59]; rfl) HSKC.out)
         clear HSK HSKC HREF1
         go_wp2_with (first | (go_at_call 146; refine HAT'.out.mono ?_; rintro e w' ⟨rfl, rfl⟩) | (go_at_call 147; (with_reducible refine (blank1_any _ _).mono ?_); rintro e w' ⟨rfl, rfl⟩))
         go_roundw
         case rel => exact ⟨pos + wd, g, line, col + 1, false, acc, Ao, no, co, rfl, rfl, rfl, rfl, by go_num, HO.out, HB.out, HS.out, HLF1.out, hl0, by omega, by omega, by omega, by have := HACC.out; omega, hw2⟩
         case measure => simp [intOf]; omega
        ·have HS := hide (HSK.out true (by rw [h59]; rfl) HSKC.out)
         clear HSK HSKC HREF1
         go_wp2_with (first | (go_at_call 146; refine HAT'.out.mono ?_; rintro e w' ⟨rfl, rfl⟩) | (go_at_call 147; (with_reducible refine (blank1_any _ _).mono ?_); rintro e w' ⟨rfl, rfl⟩))
         go_roundw
         case rel => exact ⟨pos + wd, g, line, col + 1, true, acc, Ao, no, co, rfl, rfl, rfl, rfl, by go_num, HO.out, HB.out, HS.out, HLF1.out, hl0, by omega, by omega, by omega, by have := HACC.out; omega, hw2⟩
         case measure => simp [intOf]; omega
      ·clear hsk
       have HS := hide (HSK.out true rfl HSKC.out)
       clear HSK HSKC HREF1
       go_wp2_with (first | (go_at_call 146; refine HAT'.out.mono ?_; rintro e w' ⟨rfl, rfl⟩) | (go_at_call 147; (with_reducible refine (blank1_any _ _).mono ?_); rintro e w' ⟨rfl, rfl⟩))
       go_roundw
       case rel => exact ⟨pos + wd, g, line, col + 1, true, acc, Ao, no, co, rfl, rfl, rfl, rfl, by go_num, HO.out, HB.out, HS.out, HLF1.out, hl0, by omega, by omega, by omega, by have := HACC.out; omega, hw2⟩
       case measure => simp [intOf]; omega
     ·have hrem : rem = false := by cases rem; rfl; exact absurd (.inl rfl) hsk
      subst hrem
      have hB : isB r = false := by cases h : isB r; rfl; exact absurd (.inr (.inl h)) hsk
      have h59 : ((r : Int) == 59) = false := by simp only [beq_eq_false_iff_ne]; exact fun h => hsk (.inr (.inr h))
      have HNS := hide hsk; clear hsk HSK
      obtain ⟨ty, hty⟩ : ∃ ty, Utf8.encode (r : Int) = ty := ⟨_, rfl⟩
      rw [hty] at HEX HEW
      have hex := HEX.out
      have htysz := HEW.out
      have HTY := hide hty; clear hty HEX HEW
      have hnum : Calls Tryz.prog 148 #[.string s, .int .i64 pos] (wr.alloc (.cells #[.int .i64 3, .string ty, .int .i64 0, .int .i64 line, .int .i64 col] 137)) (Ret (.int .i64 (numLen (items s pos) : Nat)) (wr.alloc (.cells #[.int .i64 3, .string ty, .int .i64 0, .int .i64 line, .int .i64 col] 137))) := numbers_any s pos _ hs hp
      have HTK := hide (@numT_take (items s pos))
      have HNL := hide (show numLen ((r : Int) :: items s (pos + wd)) = numLen (items s pos) by rw [HI.out])
      have HIP := hide (show items s pos = (r : Int) :: items s (pos + wd) from HI.out)
      obtain ⟨k, hk⟩ : ∃ k, numLen (items s pos) = k := ⟨_, rfl⟩
      rw [hk] at hnum HTK HNL
      have HNUM := hide hnum; clear hnum hk
      have htn : ((pos : Int) + (wd : Int)).toNat = pos + wd := by omega
      have HREF2 := hide (show (if 0 < k then (if numBad (runesBytes (((r : Int) :: items s (pos + wd)).take k)) = true then errR line col 3 else if headL (((r : Int) :: items s (pos + wd)).drop k) = true then errR line (col + k) 6
        else refL g line (col + k) false (((r : Int) :: items s (pos + wd)).drop k) (acc ++ [⟨2, runesBytes (((r : Int) :: items s (pos + wd)).take k), numN (runesBytes (((r : Int) :: items s (pos + wd)).take k)), line, col⟩]))
       else if isL r = true then (if 16 < (((r : Int) :: items s (pos + wd)).takeWhile isLD).length then errR line col 3 else refL g line (col + (((r : Int) :: items s (pos + wd)).takeWhile isLD).length) false (((r : Int) :: items s (pos + wd)).drop (((r : Int) :: items s (pos + wd)).takeWhile isLD).length) (acc ++ [⟨1, runesBytes (((r : Int) :: items s (pos + wd)).takeWhile isLD), 0, line, col⟩]))
       else if isS r = false then errR line col 6 else refL g line (col + 1) false (items s (pos + wd)) (acc ++ [⟨3, ty, 0, line, col⟩])) = R0 by have h := HREF1.out; rw [refL_cons, if_neg (by omega), if_neg HN10.out, if_neg HNS.out, HNL.out, HTY.out] at h; exact h)
      clear HREF1 HNS HN10 HREF HNL
      rw [← HIP.out] at HREF2
      by_cases hk0 : 0 < k
      ·obtain ⟨hT, hTl⟩ := HTK.out hk0
       have HT := hide hT; have HTL := hide hTl
       have happ : items s pos = (items s pos).take k ++ (items s pos).drop k := (List.take_append_drop k _).symm
       obtain ⟨t, ht⟩ : ∃ t, (items s pos).take k = t := ⟨_, rfl⟩
       have hlen : t.length = k := by rw [← ht, List.length_take]; omega
       rw [ht] at happ HT
       have hseg := items_seg t pos _ happ (fun x hx => (HT.out.asc x hx).1) (by omega)
       have hext := seg_extract happ (fun x hx => (HT.out.asc x hx).1) (by omega)
       rw [asc_size t HT.out.asc, hlen] at hseg hext
       obtain ⟨hs1, hs2, _⟩ := hseg
       have hlf2 : (items s (pos + k)).length < g := by rw [hs1, List.length_drop]; have := HLF.out; have := HTL.out; omega
       rw [if_pos hk0, ht, ← hs1] at HREF2
       have HS1 := hide hs1; have HEXT := hide hext; have HLF2 := hide hlf2
       have hTs : (runesBytes t).size = k := by rw [asc_size t HT.out.asc, hlen]
       have HTS := hide hTs
       have hval : Calls Tryz.prog 149 #[.string (s.extract pos (pos + k))] (wr.alloc (.cells #[.int .i64 3, .string ty, .int .i64 0, .int .i64 line, .int .i64 col] 137)) (RetVal (if numBad (runesBytes t) = true then (0, false) else (numN (runesBytes t), true)) (wr.alloc (.cells #[.int .i64 3, .string ty, .int .i64 0, .int .i64 line, .int .i64 col] 137))) := by
        rw [HEXT.out, ← value_num HT.out]
        exact value_any _ _ (by rw [hTs]; omega) (by rw [hTs]; omega) HT.out.bytes
       have HNI := hide (numN_in (runesBytes t))
       have HSZ := hide (show (runesBytes t).size ≤ maxLen by rw [hTs]; unfold maxLen; omega)
       clear happ hext hlf2 hT hTl hs1 hlen ht HTK HT
       obtain ⟨tx, htx⟩ : ∃ tx, runesBytes t = tx := ⟨_, rfl⟩
       rw [htx] at HREF2 hval HNI HSZ HEXT hTs HTS
       clear htx
       have htk : ((pos : Int) + (k : Int)).toNat = pos + k := by omega
       have hkz : (0 : Int) < (k : Int) := by omega
       cases hbad : numBad tx
       ·rw [hbad] at hval HREF2
        simp only [Bool.false_eq_true, if_false] at hval HREF2
        have HVAL := hide hval; clear hval
        have HHEAD := hide (head_at s (pos + k))
        have HAT2 := hide (show ∀ W, Calls Tryz.prog 146 #[.string s, .int .i64 ((pos : Int) + (k : Int))] W (RetAt (atR s (pos + k)) W) from fun W => at_any s (pos + k) W (by omega) (by omega))
        obtain ⟨⟨x, m⟩, hxm⟩ : ∃ xm, atR s (pos + k) = xm := ⟨_, rfl⟩
        rw [hxm] at HAT2 HHEAD
        clear hxm
        obtain ⟨nn, hnn2⟩ : ∃ nn, numN tx = nn := ⟨_, rfl⟩
        rw [hnn2] at HVAL HREF2 HNI
        clear hnn2
        have hext := HEXT.out; have htsz := HTS.out
        clear HEXT
        rw [hext] at HVAL
        go_wp2_with (first | (go_at_call 146; refine HAT'.out.mono ?_; rintro e w' ⟨rfl, rfl⟩) | (go_at_call 147; (with_reducible refine (blank1_any _ _).mono ?_); rintro e w' ⟨rfl, rfl⟩) | (go_at_call 148; refine HNUM.out.mono ?_; rintro e w' ⟨rfl, rfl⟩) | (go_at_call 149; refine HVAL.out.mono ?_; rintro e w' ⟨rfl, rfl⟩))
        go_region
        by_cases hm : 0 < m
        ·have hm' : (0 : Int) < (m : Int) := by omega
         cases hLx : isL x
         ·have HMM := hide hLx
          have hh : headL (items s (pos + k)) = false := by rw [HHEAD.out]; simp [HMM.out]
          rw [hh, if_neg (by decide)] at HREF2
          clear hh
          have HY := hide (show ∀ W, Rep.is W (fun _ => False) (⟨2, tx, nn, line, col⟩ : Word) [.int .i64 2, .string tx, .int .i64 nn, .int .i64 line, .int .i64 col] from fun W => word_is W _ 2 nn line col tx ⟨by decide, by decide⟩ HSZ.out HNI.out (by unfold InI; omega) (by unfold InI; omega))
          go_wp2_with (first | (go_at_call 146; refine (HAT2.out _).mono ?_; rintro e w' ⟨rfl, rfl⟩) | (go_at_call 150; (with_reducible refine (letter1_any _ _).mono ?_); rintro e w' ⟨rfl, rfl⟩) | (at_builtin; refine wpList_push (α := Word) ((wr.alloc (.cells #[.int .i64 2, .string tx, .int .i64 nn, .int .i64 line, .int .i64 col] 137)).drew) [.int .i64 2, .string tx, .int .i64 nn, .int .i64 line, .int .i64 col] 137 rfl (.tmp 153) (.tmp 155) 131 rfl w.heap.size 137 i0 _ 48 Tryz.underlying131 HI0.out HZ.out HZ1.out HZ2.out rfl (by decide) (fun _ => False) (fun _ => False) (.slice Ao no co) acc ⟨2, tx, nn, line, col⟩ rfl ((HO.out.alloc _).drew) _ rfl (by simp) (HY.out _) (fun _ h => h) (fun _ _ h => h) (fun _ h => h.elim) (by have := HACC.out; omega) (by have := HACC.out; omega) (by simp; omega) ?_))
          intro v' w1 hown' hg hrow
          have hs1 : wr.heap.size + 2 ≤ w1.heap.size := by have := hg.size; simpa using this
          have hvo : ∀ g, (Value.slice Ao no co).ownBlock = some g → w.heap.size ≤ g ∧ g < wr.heap.size := HVO.out
          have hblk : w1.heap[wr.heap.size]? = some (.cells #[.int .i64 2, .string tx, .int .i64 nn, .int .i64 line, .int .i64 col] 137 (0, 0)) := by
           rw [hg.block wr.heap.size (by simp; omega) (fun e => by have := (hvo _ e.symm).2; omega)]
           first | exact blk_two wr _ _ | exact blk_two' wr _ _
          have ct1 : w1.cell? ⟨wr.heap.size, 1, none⟩ = some (.string tx) := cell_of_row w1 _ _ _ _ (0, 0) hblk
          have HBB := hide (((HB.out.alloc hsz (.cells #[.int .i64 2, .string tx, .int .i64 nn, .int .i64 line, .int .i64 col] 137)).drew.alloc (by simp; omega) (.cells #[.int .i64 2, .string tx, .int .i64 nn, .int .i64 line, .int .i64 col] 137)).grown hg (by simp; omega) (fun g e => (hvo g e).1))
          have HOW := hide hown'
          obtain ⟨Av, cv, hv⟩ := hown'.form
          subst hv
          clear hown' hg hrow hblk hvo
          rw [List.length_append, List.length_singleton] at HOW ⊢
          generalize hnv : acc.length + 1 = nv at HOW ⊢
          clear hnv
          go_wp2_with fail
          go_roundw
          case rel => exact ⟨pos + k, g, line, col + k, false, _, Av, nv, cv, rfl, rfl, rfl, rfl, by go_num, HOW.out, HBB.out, HREF2.out, HLF2.out, hl0, by omega, by omega, by omega, by rw [List.length_append, List.length_singleton]; have := HACC.out; omega, by omega⟩
          case measure => simp [intOf]; omega
         ·have hh : headL (items s (pos + k)) = true := by rw [HHEAD.out]; simp [hm, hLx]
          rw [hh, if_pos rfl] at HREF2
          clear hh
          go_wp2_with (first | (go_at_call 146; refine (HAT2.out _).mono ?_; rintro e w' ⟨rfl, rfl⟩) | (go_at_call 150; (with_reducible refine (letter1_any _ _).mono ?_); rintro e w' ⟨rfl, rfl⟩))
          refine bodyPost_ret (results_tmp4 rfl _ _ _) rfl ?_
          rw [← HREF2.out]
          exact ⟨none, 0, 0, rfl, Sl.nil, (HB.out.alloc hsz _).drew.to_ext⟩
        ·have hm' : ¬ (0 : Int) < (m : Int) := by omega
         have HMM := hide hm
         have hh : headL (items s (pos + k)) = false := by rw [HHEAD.out]; simp [HMM.out]
         rw [hh, if_neg (by decide)] at HREF2
         clear hh
         have HY := hide (show ∀ W, Rep.is W (fun _ => False) (⟨2, tx, nn, line, col⟩ : Word) [.int .i64 2, .string tx, .int .i64 nn, .int .i64 line, .int .i64 col] from fun W => word_is W _ 2 nn line col tx ⟨by decide, by decide⟩ HSZ.out HNI.out (by unfold InI; omega) (by unfold InI; omega))
         go_wp2_with (first | (go_at_call 146; refine (HAT2.out _).mono ?_; rintro e w' ⟨rfl, rfl⟩) | (go_at_call 150; (with_reducible refine (letter1_any _ _).mono ?_); rintro e w' ⟨rfl, rfl⟩) | (at_builtin; refine wpList_push (α := Word) ((wr.alloc (.cells #[.int .i64 2, .string tx, .int .i64 nn, .int .i64 line, .int .i64 col] 137)).drew) [.int .i64 2, .string tx, .int .i64 nn, .int .i64 line, .int .i64 col] 137 rfl (.tmp 153) (.tmp 155) 131 rfl w.heap.size 137 i0 _ 48 Tryz.underlying131 HI0.out HZ.out HZ1.out HZ2.out rfl (by decide) (fun _ => False) (fun _ => False) (.slice Ao no co) acc ⟨2, tx, nn, line, col⟩ rfl ((HO.out.alloc _).drew) _ rfl (by simp) (HY.out _) (fun _ h => h) (fun _ _ h => h) (fun _ h => h.elim) (by have := HACC.out; omega) (by have := HACC.out; omega) (by simp; omega) ?_))
         intro v' w1 hown' hg hrow
         have hs1 : wr.heap.size + 2 ≤ w1.heap.size := by have := hg.size; simpa using this
         have hvo : ∀ g, (Value.slice Ao no co).ownBlock = some g → w.heap.size ≤ g ∧ g < wr.heap.size := HVO.out
         have hblk : w1.heap[wr.heap.size]? = some (.cells #[.int .i64 2, .string tx, .int .i64 nn, .int .i64 line, .int .i64 col] 137 (0, 0)) := by
          rw [hg.block wr.heap.size (by simp; omega) (fun e => by have := (hvo _ e.symm).2; omega)]
          first | exact blk_two wr _ _ | exact blk_two' wr _ _
         have ct1 : w1.cell? ⟨wr.heap.size, 1, none⟩ = some (.string tx) := cell_of_row w1 _ _ _ _ (0, 0) hblk
         have HBB := hide (((HB.out.alloc hsz (.cells #[.int .i64 2, .string tx, .int .i64 nn, .int .i64 line, .int .i64 col] 137)).drew.alloc (by simp; omega) (.cells #[.int .i64 2, .string tx, .int .i64 nn, .int .i64 line, .int .i64 col] 137)).grown hg (by simp; omega) (fun g e => (hvo g e).1))
         have HOW := hide hown'
         obtain ⟨Av, cv, hv⟩ := hown'.form
         subst hv
         clear hown' hg hrow hblk hvo
         rw [List.length_append, List.length_singleton] at HOW ⊢
         generalize hnv : acc.length + 1 = nv at HOW ⊢
         clear hnv
         go_wp2_with fail
         go_roundw
         case rel => exact ⟨pos + k, g, line, col + k, false, _, Av, nv, cv, rfl, rfl, rfl, rfl, by go_num, HOW.out, HBB.out, HREF2.out, HLF2.out, hl0, by omega, by omega, by omega, by rw [List.length_append, List.length_singleton]; have := HACC.out; omega, by omega⟩
         case measure => simp [intOf]; omega
       ·rw [hbad] at hval HREF2
        simp only [if_true] at hval HREF2
        have HVAL := hide hval; clear hval
        have hext := HEXT.out; have htsz := HTS.out
        clear HEXT
        rw [hext] at HVAL
        go_wp2_with (first | (go_at_call 146; refine HAT'.out.mono ?_; rintro e w' ⟨rfl, rfl⟩) | (go_at_call 147; (with_reducible refine (blank1_any _ _).mono ?_); rintro e w' ⟨rfl, rfl⟩) | (go_at_call 148; refine HNUM.out.mono ?_; rintro e w' ⟨rfl, rfl⟩) | (go_at_call 149; refine HVAL.out.mono ?_; rintro e w' ⟨rfl, rfl⟩))
        refine bodyPost_ret (results_tmp4 rfl _ _ _) rfl ?_
        rw [← HREF2.out]
        exact ⟨none, 0, 0, rfl, Sl.nil, (HB.out.alloc hsz _).to_ext⟩
      ·have hk00 : k = 0 := by omega
       subst hk00
       rw [if_neg (by omega)] at HREF2
       cases hL : isL r
       ·rw [hL, if_neg (by decide)] at HREF2
        cases hS : isS r
        ·rw [hS, if_pos rfl] at HREF2
         go_wp2_with (first | (go_at_call 146; refine HAT'.out.mono ?_; rintro e w' ⟨rfl, rfl⟩) | (go_at_call 147; (with_reducible refine (blank1_any _ _).mono ?_); rintro e w' ⟨rfl, rfl⟩) | (go_at_call 148; refine HNUM.out.mono ?_; rintro e w' ⟨rfl, rfl⟩) | (go_at_call 150; (with_reducible refine (letter1_any _ _).mono ?_); rintro e w' ⟨rfl, rfl⟩) | (go_at_call 152; (with_reducible refine (sign1_any _ _).mono ?_); rintro e w' ⟨rfl, rfl⟩))
         refine bodyPost_ret (results_tmp4 rfl _ _ _) rfl ?_
         rw [← HREF2.out]
         exact ⟨none, 0, 0, rfl, Sl.nil, (HB.out.alloc hsz _).to_ext⟩
        ·rw [hS, if_neg (by decide)] at HREF2
         have HY := hide (show ∀ W, Rep.is W (fun _ => False) (⟨3, ty, 0, line, col⟩ : Word) [.int .i64 3, .string ty, .int .i64 0, .int .i64 line, .int .i64 col] from fun W => word_is W _ 3 0 line col ty ⟨by decide, by decide⟩ (by unfold maxLen; omega) ⟨by decide, by decide⟩ (by unfold InI; omega) (by unfold InI; omega))
         go_wp2_with (first | (go_at_call 146; refine HAT'.out.mono ?_; rintro e w' ⟨rfl, rfl⟩) | (go_at_call 147; (with_reducible refine (blank1_any _ _).mono ?_); rintro e w' ⟨rfl, rfl⟩) | (go_at_call 148; refine HNUM.out.mono ?_; rintro e w' ⟨rfl, rfl⟩) | (go_at_call 150; (with_reducible refine (letter1_any _ _).mono ?_); rintro e w' ⟨rfl, rfl⟩) | (go_at_call 152; (with_reducible refine (sign1_any _ _).mono ?_); rintro e w' ⟨rfl, rfl⟩) | (at_builtin; refine wpList_push (α := Word) ((wr.alloc (.cells #[.int .i64 3, .string ty, .int .i64 0, .int .i64 line, .int .i64 col] 137))) [.int .i64 3, .string ty, .int .i64 0, .int .i64 line, .int .i64 col] 137 rfl (.tmp 153) (.tmp 155) 131 rfl w.heap.size 137 i0 _ 48 Tryz.underlying131 HI0.out HZ.out HZ1.out HZ2.out rfl (by decide) (fun _ => False) (fun _ => False) (.slice Ao no co) acc ⟨3, ty, 0, line, col⟩ rfl (HO.out.alloc _) _ rfl (by simp) (HY.out _) (fun _ h => h) (fun _ _ h => h) (fun _ h => h.elim) (by have := HACC.out; omega) (by have := HACC.out; omega) (by simp; omega) ?_))
         intro v' w1 hown' hg hrow
         have hs1 : wr.heap.size + 2 ≤ w1.heap.size := by have := hg.size; simpa using this
         have hvo : ∀ g, (Value.slice Ao no co).ownBlock = some g → w.heap.size ≤ g ∧ g < wr.heap.size := HVO.out
         have hblk : w1.heap[wr.heap.size]? = some (.cells #[.int .i64 3, .string ty, .int .i64 0, .int .i64 line, .int .i64 col] 137 (0, 0)) := by
          rw [hg.block wr.heap.size (by simp; omega) (fun e => by have := (hvo _ e.symm).2; omega)]
          first | exact blk_two wr _ _ | exact blk_two' wr _ _
         have ct1 : w1.cell? ⟨wr.heap.size, 1, none⟩ = some (.string ty) := cell_of_row w1 _ _ _ _ (0, 0) hblk
         have HBB := hide (((HB.out.alloc hsz (.cells #[.int .i64 3, .string ty, .int .i64 0, .int .i64 line, .int .i64 col] 137)).alloc (by simp; omega) (.cells #[.int .i64 3, .string ty, .int .i64 0, .int .i64 line, .int .i64 col] 137)).grown hg (by simp; omega) (fun g e => (hvo g e).1))
         have HOW := hide hown'
         obtain ⟨Av, cv, hv⟩ := hown'.form
         subst hv
         clear hown' hg hrow hblk hvo
         rw [List.length_append, List.length_singleton] at HOW ⊢
         generalize hnv : acc.length + 1 = nv at HOW ⊢
         clear hnv
         go_wp2_with fail
         go_roundw
         case rel => exact ⟨pos + wd, g, line, col + 1, false, _, Av, nv, cv, rfl, rfl, rfl, rfl, by go_num, HOW.out, HBB.out, HREF2.out, HLF1.out, hl0, by omega, by omega, by omega, by rw [List.length_append, List.length_singleton]; have := HACC.out; omega, by omega⟩
         case measure => simp [intOf]; omega
       ·rw [hL, if_pos rfl] at HREF2
        have HRUN := hide (show ∀ W, Calls Tryz.prog 151 #[.string s, .int .i64 pos, .bool false] W (RetRun (runT false s pos) W) from fun W => run_any false s pos W hs (by omega))
        have hrt : (items s pos).takeWhile isLD = runT false s pos := rfl
        rw [hrt] at HREF2
        clear hrt
        have happ := runT_rest false s pos
        have hnn2 : ∀ x ∈ runT false s pos, 0 ≤ x := fun x hx => PB_pos (runT_all false s pos x hx)
        have hseg := items_seg (runT false s pos) pos _ happ hnn2 (by omega)
        have hext := seg_extract happ hnn2 (by omega)
        have hdr : (items s pos).drop (runT false s pos).length = (items s pos).dropWhile (PB false) := by conv => lhs; rw [happ]; rw [List.drop_left' rfl]
        have hlp : 0 < (runT false s pos).length := by unfold runT; rw [HIP.out, List.takeWhile_cons, if_pos (show PB false r = true by simp [PB, isLD, hL])]; simp
        obtain ⟨t, ht⟩ : ∃ t, runT false s pos = t := ⟨_, rfl⟩
        rw [ht] at hseg hext hdr HREF2 HRUN hlp
        obtain ⟨hs1, hs2, _⟩ := hseg
        have hlf2 : (items s (pos + (runesBytes t).size)).length < g := by rw [hs1, ← hdr, List.length_drop]; have := HLF.out; have : 0 < (items s pos).length := (by rw [HIP.out]; simp); omega
        rw [hdr, ← hs1] at HREF2
        have hle : t.length ≤ (runesBytes t).size := rb_le t
        have HLF2 := hide hlf2
        clear happ hnn2 hdr hs1 hlf2 ht
        unfold RetRun at HRUN
        obtain ⟨tx, htx⟩ : ∃ tx, runesBytes t = tx := ⟨_, rfl⟩
        rw [htx] at HREF2 HRUN hext hs2 HLF2 hle
        have HSZ := hide (show tx.size ≤ maxLen by unfold maxLen; omega)
        generalize htn2 : t.length = tn at HREF2 HRUN hlp hle
        clear htn2 htx
        obtain ⟨bz, hbz⟩ : ∃ bz, tx.size = bz := ⟨_, rfl⟩
        have htsz := hbz
        rw [hbz] at HREF2 HRUN hext hs2 HLF2 hle
        clear hbz
        have HRUN1 := hide (HRUN.out (wr.alloc (.cells #[.int .i64 3, .string ty, .int .i64 0, .int .i64 line, .int .i64 col] 137)))
        clear HRUN
        have htk : ((pos : Int) + (bz : Int)).toNat = pos + bz := by omega
        by_cases h16 : 16 < tn
        ·rw [if_pos h16] at HREF2
         have h16' : (16 : Int) < (tn : Int) := by omega
         go_wp2_with (first | (go_at_call 146; refine HAT'.out.mono ?_; rintro e w' ⟨rfl, rfl⟩) | (go_at_call 147; (with_reducible refine (blank1_any _ _).mono ?_); rintro e w' ⟨rfl, rfl⟩) | (go_at_call 148; refine HNUM.out.mono ?_; rintro e w' ⟨rfl, rfl⟩) | (go_at_call 150; (with_reducible refine (letter1_any _ _).mono ?_); rintro e w' ⟨rfl, rfl⟩) | (go_at_call 151; refine HRUN1.out.mono ?_; rintro e w' ⟨rfl, rfl⟩))
         refine bodyPost_ret (results_tmp4 rfl _ _ _) rfl ?_
         rw [← HREF2.out]
         exact ⟨none, 0, 0, rfl, Sl.nil, (HB.out.alloc hsz _).to_ext⟩
        ·rw [if_neg h16] at HREF2
         have h16' : ¬ (16 : Int) < (tn : Int) := by omega
         go_wp2_with (first | (go_at_call 146; refine HAT'.out.mono ?_; rintro e w' ⟨rfl, rfl⟩) | (go_at_call 147; (with_reducible refine (blank1_any _ _).mono ?_); rintro e w' ⟨rfl, rfl⟩) | (go_at_call 148; refine HNUM.out.mono ?_; rintro e w' ⟨rfl, rfl⟩) | (go_at_call 150; (with_reducible refine (letter1_any _ _).mono ?_); rintro e w' ⟨rfl, rfl⟩) | (go_at_call 151; refine HRUN1.out.mono ?_; rintro e w' ⟨rfl, rfl⟩))
         go_region
         have HY := hide (show ∀ W, Rep.is W (fun _ => False) (⟨1, tx, 0, line, col⟩ : Word) [.int .i64 1, .string tx, .int .i64 0, .int .i64 line, .int .i64 col] from fun W => word_is W _ 1 0 line col tx ⟨by decide, by decide⟩ HSZ.out ⟨by decide, by decide⟩ (by unfold InI; omega) (by unfold InI; omega))
         go_wp2_with (first | (go_at_call 150; (with_reducible refine (letter1_any _ _).mono ?_); rintro e w' ⟨rfl, rfl⟩) | (at_builtin; refine wpList_push (α := Word) ((wr.alloc (.cells #[.int .i64 1, .string tx, .int .i64 0, .int .i64 line, .int .i64 col] 137)).drew) [.int .i64 1, .string tx, .int .i64 0, .int .i64 line, .int .i64 col] 137 rfl (.tmp 153) (.tmp 155) 131 rfl w.heap.size 137 i0 _ 48 Tryz.underlying131 HI0.out HZ.out HZ1.out HZ2.out rfl (by decide) (fun _ => False) (fun _ => False) (.slice Ao no co) acc ⟨1, tx, 0, line, col⟩ rfl ((HO.out.alloc _).drew) _ rfl (by simp) (HY.out _) (fun _ h => h) (fun _ _ h => h) (fun _ h => h.elim) (by have := HACC.out; omega) (by have := HACC.out; omega) (by simp; omega) ?_))
         intro v' w1 hown' hg hrow
         have hs1 : wr.heap.size + 2 ≤ w1.heap.size := by have := hg.size; simpa using this
         have hvo : ∀ g, (Value.slice Ao no co).ownBlock = some g → w.heap.size ≤ g ∧ g < wr.heap.size := HVO.out
         have hblk : w1.heap[wr.heap.size]? = some (.cells #[.int .i64 1, .string tx, .int .i64 0, .int .i64 line, .int .i64 col] 137 (0, 0)) := by
          rw [hg.block wr.heap.size (by simp; omega) (fun e => by have := (hvo _ e.symm).2; omega)]
          first | exact blk_two wr _ _ | exact blk_two' wr _ _
         have ct1 : w1.cell? ⟨wr.heap.size, 1, none⟩ = some (.string tx) := cell_of_row w1 _ _ _ _ (0, 0) hblk
         have HBB := hide (((HB.out.alloc hsz (.cells #[.int .i64 1, .string tx, .int .i64 0, .int .i64 line, .int .i64 col] 137)).drew.alloc (by simp; omega) (.cells #[.int .i64 1, .string tx, .int .i64 0, .int .i64 line, .int .i64 col] 137)).grown hg (by simp; omega) (fun g e => (hvo g e).1))
         have HOW := hide hown'
         obtain ⟨Av, cv, hv⟩ := hown'.form
         subst hv
         clear hown' hg hrow hblk hvo
         rw [List.length_append, List.length_singleton] at HOW ⊢
         generalize hnv : acc.length + 1 = nv at HOW ⊢
         clear hnv
         go_wp2_with fail
         go_roundw
         case rel => exact ⟨pos + bz, g, line, col + tn, false, _, Av, nv, cv, rfl, rfl, rfl, rfl, by go_num, HOW.out, HBB.out, HREF2.out, HLF2.out, hl0, by omega, by omega, by omega, by rw [List.length_append, List.length_singleton]; have := HACC.out; omega, by omega⟩
         case measure => simp [intOf]; omega
    ·have hr10 : (r : Int) = 10 := by simpa using h10
     have hwd1 : wd = 1 := by have := HEW.out; rw [hr10] at this; have e : (Utf8.encode 10).size = 1 := rfl; omega
     subst hwd1
     have HREF2 := hide (show refL g (line + 1) 1 false (items s (pos + 1)) (acc ++ [⟨4, ByteArray.empty, 0, line, col⟩]) = R0 by rw [← HREF1.out, refL_cons, if_neg (by omega), if_pos hr10])
     clear hr10 HREF1
     have HY := hide (show ∀ W, Rep.is W (fun _ => False) (⟨4, ByteArray.empty, 0, line, col⟩ : Word) [.int .i64 4, .string ⟨#[]⟩, .int .i64 0, .int .i64 line, .int .i64 col] from fun W => word_is W _ 4 0 line col ByteArray.empty ⟨by decide, by decide⟩ (by decide) ⟨by decide, by decide⟩ (by unfold InI; omega) (by unfold InI; omega))
     go_wp2_with (first | (go_at_call 146; refine HAT'.out.mono ?_; rintro e w' ⟨rfl, rfl⟩) | (at_builtin; refine wpList_push (α := Word) wr [.int .i64 4, .string ⟨#[]⟩, .int .i64 0, .int .i64 line, .int .i64 col] 137 rfl (.tmp 38) (.tmp 42) 131 rfl w.heap.size 137 i0 _ 48 Tryz.underlying131 HI0.out HZ.out HZ1.out HZ2.out rfl (by decide) (fun _ => False) (fun _ => False) (.slice Ao no co) acc ⟨4, ByteArray.empty, 0, line, col⟩ rfl HO.out _ rfl rfl (HY.out _) (fun _ h => h) (fun _ _ h => h) (fun _ h => h.elim) (by have := HACC.out; omega) (by have := HACC.out; omega) hsz ?_))
     intro v' w1 hown' hg hrow
     have HBB := hide ((HB.out.alloc hsz (.cells #[.int .i64 4, .string ⟨#[]⟩, .int .i64 0, .int .i64 line, .int .i64 col] 137)).grown hg (by simp; omega) (fun g e => (HVO.out g e).1))
     have HOW := hide hown'
     obtain ⟨Av, cv, hv⟩ := hown'.form
     subst hv
     clear hown' hg hrow
     rw [List.length_append, List.length_singleton] at HOW ⊢
     generalize hnv : acc.length + 1 = nv at HOW ⊢
     clear hnv
     go_wp2_with fail
     go_roundw
     case rel => exact ⟨pos + 1, g, line + 1, 1, false, _, Av, nv, cv, rfl, rfl, rfl, rfl, by go_num, HOW.out, HBB.out, HREF2.out, HLF1.out, by omega, by omega, by omega, by omega, by rw [List.length_append, List.length_singleton]; have := HACC.out; omega, by omega⟩
     case measure => simp [intOf]; omega
  ·have hi := items_end hp
   have HFIN := hide (show R0 = ⟨acc, 0, 0, 0⟩ by rw [← HREF.out, hi]; cases f with | zero => rfl | succ g => rfl)
   clear hi
   go_wp2_with fail
   refine bodyPost_ret (results_tmp4 rfl _ _ _) rfl ?_
   rw [HFIN.out]
   exact ⟨Ao, no, co, rfl, HO.out.sl (fun b _ h => by rcases h with h | h; exact h.elim; exact h), HB.out.to_ext⟩
end Go.Proofs.YtljglhaeonbfoaaGreatDoor
namespace Go.Proofs.YtljglhaeonbfoaaGreatDoor
open Go.RowKit
end Go.Proofs.YtljglhaeonbfoaaGreatDoor
namespace Go.Proofs.YtljglhaeonbfoaaGreatDoor
open Go.RowKit
end Go.Proofs.YtljglhaeonbfoaaGreatDoor
namespace Go.Proofs.YtljglhaeonbfoaaGreatDoor
open Go.RowKit
end Go.Proofs.YtljglhaeonbfoaaGreatDoor
