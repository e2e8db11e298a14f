/- The walk's world under a name. The number that a text tells, as Atoi tells it; the reader's methods: begin, close, take. -/
import Derived.Test.YtljglhaeonbfoaaGreatDoorG0
import Derived.Test.YtljglhaeonbfoaaGreatDoorG4
import Derived.Test.YtljglhaeonbfoaaGreatDoorShelfA
import Derived.Lib.AtoiErrMem
import Derived.Deep.Cut
set_option linter.unusedSimpArgs false
set_option linter.unusedVariables false
namespace Go.Proofs.YtljglhaeonbfoaaGreatDoor
theorem name_world {P : Program} {c : Code} {Q : Exit → Act → World → Prop} {a : Act} {w : World} (h : ∀ W' : World, W' = w → c.wp P Q a W') : c.wp P Q a w := h w rfl
end Go.Proofs.YtljglhaeonbfoaaGreatDoor
namespace Go.Proofs.YtljglhaeonbfoaaGreatDoor
open Go.RowKit
structure Vars (w : World) : Prop where
 es : ∃ te pe, w.cell? ⟨2, 0, none⟩ = some (.iface te pe)
 er : ∃ te pe, w.cell? ⟨3, 0, none⟩ = some (.iface te pe)
 sz : 6 ≤ w.heap.size
theorem Vars.keep {w w' : World} (h : Vars w) (hs : w.heap.size ≤ w'.heap.size) (hk : ∀ b, b < 6 → w'.heap[b]? = w.heap[b]?) : Vars w' := by
 obtain ⟨⟨a, b, h1⟩, ⟨c, d, h2⟩, h3⟩ := h
 exact ⟨⟨a, b, (World.cell?_of_block (hk _ (by show 2 < 6; omega))).trans h1⟩, ⟨c, d, (World.cell?_of_block (hk _ (by show 3 < 6; omega))).trans h2⟩, Nat.le_trans h3 hs⟩
theorem Vars.below {w w' : World} {B : Nat} (h : Vars w) (hb : Below B w w') (hB : 6 ≤ B) : Vars w' := h.keep hb.size fun b hb' => hb.block b (by omega)
def numOk (s : ByteArray) : Bool := match Lib.atoiAll s.data.toList with
 | .ok _ => true
 | _ => false
theorem atoi_ok (s : ByteArray) (w : World) (hs : s.size ≤ 281474976710656) (h : numOk s = true) : Calls Tryz.prog 138 #[.string s] w (RetX (.tuple #[.int .i64 (numN s), .nilIface]) w) := by
 unfold numOk at h
 cases hv : Lib.atoiAll s.data.toList
 ·rename_i v
  refine (Tryz.strconv_Atoi_ok s (by omega) v hv w).mono ?_
  rintro e w' ⟨rfl, hw⟩
  refine ⟨by simp [numN, hv], ?_⟩
  rcases hw with rfl | ⟨t, rfl⟩
  ·exact ext_refl _
  ·exact Below.to_ext (Lib.bytesWorld_below _ _ _)
 ·rw [hv] at h; cases h
 ·rw [hv] at h; cases h
def RetErr (T : TypeId) (n : Int) (w : World) (e : Ending) (w' : World) : Prop := ∃ N, e = .returned (.tuple #[.int .i64 n, .iface T (.pointer (some ⟨N, 0, none⟩))]) ∧ ∃ u : Ext, w' = w.ext u
theorem atoi_no (s : ByteArray) (w : World) (hs : s.size ≤ 281474976710656) (hv : Vars w) (h : numOk s = false) : Calls Tryz.prog 138 #[.string s] w (RetErr 224 (numN s) w) := by
 unfold numOk at h
 obtain ⟨⟨a, b, h1⟩, ⟨c, d, h2⟩, _⟩ := hv
 cases hv : Lib.atoiAll s.data.toList
 ·rw [hv] at h; cases h
 ·refine (Any.strconv_Atoi_syntax Tryz.laysC172 s hs hv _ w h1 (.inr ⟨_, _, rfl⟩)).mono ?_
  rintro e w' ⟨N, rfl, _, _, hb⟩
  exact ⟨N, by simp [numN, hv]; rfl, hb.to_ext⟩
 ·refine (Tryz.strconv_Atoi_range s hs hv _ w h2 (.inr ⟨_, _, rfl⟩)).mono ?_
  rintro e w' ⟨N, rfl, _, _, hb⟩
  exact ⟨N, by simp [numN, hv], hb.to_ext⟩
theorem parse_bound : ∀ (l : List UInt8) (v : Int), Lib.atoiAll l = .ok v → InI v := by
 intro l v h
 unfold Lib.atoiAll at h
 cases l with
 | nil => cases h
 | cons c r =>
  simp only at h
  split at h
  ·cases h
  ·cases h
  ·split at h
   ·cases h
   ·split at h
    ·cases h
    ·injection h with h
     subst h
     unfold InI
     split <;> omega
theorem numN_in (s : ByteArray) : InI (numN s) := by
 unfold numN
 cases hv : Lib.atoiAll s.data.toList
 ·exact parse_bound _ _ hv
 ·show InI 0; exact ⟨by decide, by decide⟩
 ·simp only [Lib.atoiSat]; split <;> exact ⟨by decide, by decide⟩
theorem numBad_eq (s : ByteArray) : numBad s = (!numOk s || (decide (numN s < -1099511627776) || decide (1099511627776 < numN s))) := by
 unfold numBad numOk numN
 cases hv : Lib.atoiAll s.data.toList <;> simp
theorem OwnL.runes {w : World} {base : Nat} {S : Nat → Prop} {v : Value} {l : List Int} (h : OwnL w base 21 S v (rus l)) : (convert 173 9 v).run Tryz.prog w = .ok (.string (runesBytes l)) w := by
 obtain ⟨A, c, rfl⟩ := h.form
 cases A with
 | none =>
  have h0 : l = [] := by
   obtain ⟨vals, ⟨_, hr⟩, _⟩ := h
   rcases hr with ⟨e, h0⟩ | ⟨g, cap, cur, e, _⟩
   ·rw [rus_len] at h0; exact List.eq_nil_of_length_eq_zero h0
   ·injection e with e; cases e
  subst h0
  exact run_convert_runes_nil w 173 9 21 _ c Tryz.underlying173 Tryz.underlying21 Tryz.underlying9
 | some ad =>
  have hs := h.sl (S' := fun _ => True) (fun _ _ _ => trivial)
  have key : ∀ j, j < l.length → w.cell? (ad.add j) = some (.int .i32 (l.getD j 0)) := fun j hj => by
   have hp : 0 < (rus l).length := by rw [rus_len]; omega
   obtain ⟨b, off, e, hb, _, hx⟩ := hs.2.2.2.2 hp
   injection e with e
   subst e
   obtain ⟨us, hus, hc⟩ := hx j ⟨l[j]⟩ (by simp [rus, List.getElem?_eq_getElem hj])
   have hus' : us = [.int .i32 l[j]] := hus
   subst hus'
   have := hc 0 _ rfl
   have e1 : j * Rep.size Ru + 0 = j := by show j * 1 + 0 = j; omega
   rw [e1] at this
   rw [show (⟨b, off, none⟩ : Addr).add j = ⟨b, off + j, none⟩ by unfold Addr.add; split <;> simp_all]
   simpa [List.getD, List.getElem?_eq_getElem hj] using this
  have := run_convert_runes w 173 9 21 ad l.length c l (Nat.le_refl _) Tryz.underlying173 Tryz.underlying21 Tryz.underlying9 key
  rw [List.take_length] at this
  rw [rus_len]
  exact this
theorem runes_size (l : List Int) : (runesBytes l).size ≤ 4 * l.length := runesBytes_size_le l
theorem info_int32 : (Tryz.prog.info? 21).map (fun i => (i.zero, i.size, i.bytes)) = some (some (.int .i32 0), 1, 4) := by kernel_rfl
structure Small (st : St) (k : Nat) : Prop where
 l0 : 0 ≤ st.line
 l1 : st.line ≤ k
 c0 : 0 ≤ st.col
 c1 : st.col ≤ k
 fl0 : 0 ≤ st.fl
 fl1 : st.fl ≤ k
 fc0 : 0 ≤ st.fc
 fc1 : st.fc ≤ k
 text : st.text.length ≤ k
 words : st.words.length ≤ 2 * k
theorem InI.of_nat {n : Int} {k : Nat} (h0 : 0 ≤ n) (h1 : n ≤ k) (hk : k ≤ 1099511627776) : InI n := ⟨by omega, by omega⟩
theorem begin_any (w : World) (base R : Nat) (q : RdM) (st : St) (h : RdAt w base R q st) (k : Nat) (hs : Small st k) (hk : k ≤ 137438953472) (c : Int) :
  Calls Tryz.prog 173 #[.pointer (some ⟨R, 0, none⟩), .int .i32 c] w (RdP base R q w (beginS c st)) := by
 have k0 := h.k0; have k1 := h.k1; have k2 := h.k2; have k3 := h.k3; have k4 := h.k4; have k5 := h.k5; have hlt := h.lt
 have f2 := h.fz 2; have f3 := h.fz 3; have f4 := h.fz 4; have f5 := h.fz 5
 obtain ⟨At, ct, ht⟩ := h.text.form
 generalize (rus st.text).length = nt at ht
 rw [ht] at k5
 clear ht
 have HR := hide h; clear h
 have HS := hide hs; have HK := hide hk; clear hs hk
 have hbR : base < w.heap.size := by have := HR.out.hR; omega
 go_enter Tryz.func173, Tryz.ntmps173
 go_upto_region 1 with (fail)
 obtain ⟨q1, hq1⟩ : ∃ q1 : RdM, q1 = { q with tv := .slice (some ⟨w.heap.size, 0, none⟩) 1 1 } := ⟨_, rfl⟩
 obtain ⟨st1, hst1⟩ : ∃ st1 : St, st1 = { st with fl := st.line, fc := st.col, text := [c] } := ⟨_, rfl⟩
 refine name_world fun W1 hW1 => ?_
 have hW1' : W1 = (((w.alloc (.cells #[.int .i32 c] 21)).setCell ⟨R, 3, none⟩ (.int .i64 st.line)).setCell ⟨R, 4, none⟩ (.int .i64 st.col)).setCell ⟨R, 5, none⟩ (.slice (some ⟨w.heap.size, 0, none⟩) 1 1) := by
  rw [hW1, World.setCell_alloc_past _ _ _ _ hlt, World.setCell_alloc_past _ _ _ _ (by simpa using hlt), World.setCell_alloc_past _ _ _ _ (by simpa using hlt)]
 have HB : Hd (RdAt W1 base R q1 st1 ∧ RdFr q q1 R w W1) := by
  refine hide ?_
  rw [hW1', hq1, hst1]
  have a0 := HR.out.alloc (.cells #[.int .i32 c] 21)
  have a1 : RdAt ((w.alloc (.cells #[.int .i32 c] 21)).setCell ⟨R, 3, none⟩ (.int .i64 st.line)) base R q { st with fl := st.line } := a0.put_ rfl rfl rfl
  have a2 : RdAt (((w.alloc (.cells #[.int .i32 c] 21)).setCell ⟨R, 3, none⟩ (.int .i64 st.line)).setCell ⟨R, 4, none⟩ (.int .i64 st.col)) base R q { st with fl := st.line, fc := st.col } := a1.put_ rfl rfl rfl
  have hblk : (((w.alloc (.cells #[.int .i32 c] 21)).setCell ⟨R, 3, none⟩ (.int .i64 st.line)).setCell ⟨R, 4, none⟩ (.int .i64 st.col)).heap[w.heap.size]? = some (.cells #[.int .i32 c] 21 (0, 0)) := by
   rw [Below.heap_setCell _ _ _ _ (by simp; omega), Below.heap_setCell _ _ _ _ (by simp; omega)]
   exact heap_alloc_new w _
  have hown : OwnL (((w.alloc (.cells #[.int .i32 c] 21)).setCell ⟨R, 3, none⟩ (.int .i64 st.line)).setCell ⟨R, 4, none⟩ (.int .i64 st.col)) base 21 (fun _ => False) (.slice (some ⟨w.heap.size, 0, none⟩) 1 1) (rus [c]) :=
   ⟨[.int .i32 c], ⟨rfl, .inr ⟨w.heap.size, 1, _, rfl, by omega, hblk, Nat.le_refl _, by decide, rfl, rfl⟩⟩, RepL.single rfl, fun _ _ h => h⟩
  have hF : RdFr q q R w (((w.alloc (.cells #[.int .i32 c] 21)).setCell ⟨R, 3, none⟩ (.int .i64 st.line)).setCell ⟨R, 4, none⟩ (.int .i64 st.col)) :=
   ((RdFr.of_below ((Below.refl _ _).alloc (Nat.le_refl _) _)).trans (RdFr.put _ _)).trans (RdFr.put _ _)
  have hlw : ∀ g, q.wv.ownBlock = some g → g < w.heap.size := fun g hg => (HR.out.words.below_ g hg).2
  refine ⟨a2.put_text (World.grownBy.refl _ none) (fun g e => by cases e) hown (fun e => by have e1 : w.heap.size = R := (by simpa [Value.ownBlock] using e); omega) (fun g e e' => by
   have e1 : w.heap.size = g := by simpa [Value.ownBlock] using e
   have := hlw g e'; omega), hF.swap 5 _ ?_⟩
  rintro b (e | e | e)
  ·exact .inl (.inl e)
  ·have e1 : w.heap.size = b := by simpa [Value.ownBlock] using e
   exact .inr (by omega)
  ·exact .inl (.inr (.inr e))
 have hSt : st1.line = st.line ∧ st1.col = st.col ∧ st1.words = st.words ∧ st1.fl = st.line ∧ st1.fc = st.col := by subst hst1; exact ⟨rfl, rfl, rfl, rfl, rfl⟩
 have HSt := hide hSt
 have e1 : beginS c st = (if isL c = true then { st1 with state := 2 } else if isD c = true then { st1 with state := 4 } else if c = 45 then { st1 with state := 3 } else if c = 59 then { st1 with state := 1 }
   else if c = 10 then putS 4 ByteArray.empty 0 st1 else if isS c = true then putS 3 (Utf8.encode c) 0 st1 else if c ≠ 32 ∧ c ≠ 9 then failS 6 st1.line st1.col st1 else st1) := by subst hst1; rfl
 have E1 := hide e1
 have HN := hide (show q1.tv = .slice (some ⟨w.heap.size, 0, none⟩) 1 1 by rw [hq1])
 clear hW1 hW1' hSt e1 hq1 hst1 k0 k1 k2 k3 k4 k5 f2 f3 f4 f5
 have HR1 := hide HB.out.1; have F1 := hide HB.out.2
 clear HB
 have hlt1 := HR1.out.lt
 have k2 := HR1.out.k2; have f2 := HR1.out.fz 2; have k0 := HR1.out.k0; have k1 := HR1.out.k1
 rw [HSt.out.1] at k0; rw [HSt.out.2.1] at k1
 have fin : ∀ s : Int, RdP base R q w { st1 with state := s } (.returned (.tuple #[])) (W1.setCell ⟨R, 2, none⟩ (.int .i64 s)) := fun s =>
  ⟨rfl, q1, HR1.out.put_ rfl rfl rfl, F1.out.trans (RdFr.put _ _)⟩
 have tail : ∀ st' e w', RdP base R q1 W1 st' e w' → RdP base R q w st' e w' := fun st' e w' ⟨a, q2, b, f⟩ => ⟨a, q2, b, F1.out.trans f⟩
 have FIN := hide fin; have TAIL := hide tail
 clear fin tail
 have cput : ∀ (k n : Int) (s : ByteArray), InI k → InI n → s.size ≤ maxLen → Calls Tryz.prog 172 #[.pointer (some ⟨R, 0, none⟩), .int .i64 k, .string s, .int .i64 n] W1 (RdP base R q1 W1 (putS k s n st1)) := fun k' n s hk hn hs =>
  put_any W1 base R q1 st1 HR1.out k' n s hk hn hs (by rw [HSt.out.2.2.2.1]; exact InI.of_nat HS.out.l0 HS.out.l1 (by have := HK.out; omega)) (by rw [HSt.out.2.2.2.2]; exact InI.of_nat HS.out.c0 HS.out.c1 (by have := HK.out; omega)) (by rw [HSt.out.2.2.1]; have := HS.out.words; have := HK.out; omega)
 have CP := hide cput
 clear cput
 cases hL : isL c
 ·cases hD : isD c
  ·cases h45 : (c == 45)
   ·cases h59 : (c == 59)
    ·cases h10 : (c == 10)
     ·cases hSg : isS c
      ·by_cases hb : c = 32 ∨ c = 9
       ·have hb1 : (c != 32 && c != 9) = false := by rcases hb with rfl | rfl <;> rfl
        rcases hb with rfl | rfl
        ·have hN := hide (show ¬ isL 32 = true ∧ ¬ isD 32 = true ∧ (32 : Int) ≠ 45 ∧ (32 : Int) ≠ 59 ∧ (32 : Int) ≠ 10 ∧ ¬ isS 32 = true ∧ ¬ ((32 : Int) ≠ 32 ∧ (32 : Int) ≠ 9) from by decide)
         clear hb1 h45 h59 h10
         go_wp2_with (first | (go_at_call 174; (with_reducible refine (letter_any _ _).mono ?_); rintro e w' ⟨rfl, rfl⟩) | (go_at_call 175; (with_reducible refine (digit_any _ _).mono ?_); rintro e w' ⟨rfl, rfl⟩) | (go_at_call 189; (with_reducible refine (sign_any _ _).mono ?_); rintro e w' ⟨rfl, rfl⟩))
         go_end0
         rw [E1.out, if_neg hN.out.1, if_neg hN.out.2.1, if_neg hN.out.2.2.1, if_neg hN.out.2.2.2.1, if_neg hN.out.2.2.2.2.1, if_neg hN.out.2.2.2.2.2.1, if_neg hN.out.2.2.2.2.2.2]
         exact TAIL.out _ _ _ (RdP.same HR1.out RdFr.refl)
        ·have hN := hide (show ¬ isL 9 = true ∧ ¬ isD 9 = true ∧ (9 : Int) ≠ 45 ∧ (9 : Int) ≠ 59 ∧ (9 : Int) ≠ 10 ∧ ¬ isS 9 = true ∧ ¬ ((9 : Int) ≠ 32 ∧ (9 : Int) ≠ 9) from by decide)
         clear hb1 h45 h59 h10
         go_wp2_with (first | (go_at_call 174; (with_reducible refine (letter_any _ _).mono ?_); rintro e w' ⟨rfl, rfl⟩) | (go_at_call 175; (with_reducible refine (digit_any _ _).mono ?_); rintro e w' ⟨rfl, rfl⟩) | (go_at_call 189; (with_reducible refine (sign_any _ _).mono ?_); rintro e w' ⟨rfl, rfl⟩))
         go_end0
         rw [E1.out, if_neg hN.out.1, if_neg hN.out.2.1, if_neg hN.out.2.2.1, if_neg hN.out.2.2.2.1, if_neg hN.out.2.2.2.2.1, if_neg hN.out.2.2.2.2.2.1, if_neg hN.out.2.2.2.2.2.2]
         exact TAIL.out _ _ _ (RdP.same HR1.out RdFr.refl)
       ·have h32 : (c != 32) = true := by simp only [bne_iff_ne]; omega
        have h9 : (c != 9) = true := by simp only [bne_iff_ne]; omega
        have h9e : (c == 9) = false := by simp only [beq_eq_false_iff_ne]; omega
        have h32e : (c == 32) = false := by simp only [beq_eq_false_iff_ne]; omega
        have hb2 : c ≠ 32 ∧ c ≠ 9 := by omega
        have HB2 := hide hb2; clear hb hb2
        have hN := hide (show ¬ isL c = true ∧ ¬ isD c = true ∧ c ≠ 45 ∧ c ≠ 59 ∧ c ≠ 10 ∧ ¬ isS c = true ∧ (c ≠ 32 ∧ c ≠ 9) ∧ True from ⟨by simp [hL], by simp [hD], by simpa using h45, by simpa using h59, by simpa using h10, by simp [hSg], HB2.out, trivial⟩)
        go_wp2_with (first | (go_at_call 174; (with_reducible refine (letter_any _ _).mono ?_); rintro e w' ⟨rfl, rfl⟩) | (go_at_call 175; (with_reducible refine (digit_any _ _).mono ?_); rintro e w' ⟨rfl, rfl⟩) | (go_at_call 189; (with_reducible refine (sign_any _ _).mono ?_); rintro e w' ⟨rfl, rfl⟩) | (go_at_call 132; refine (fail_any W1 base R q1 st1 HR1.out 6 st.line st.col).mono ?_; rintro e w2 ⟨rfl, q2, hR2, hF2⟩; have HR2 := hide hR2; have HF2 := hide hF2; clear hR2 hF2))
        go_end0
        rw [E1.out, if_neg hN.out.1, if_neg hN.out.2.1, if_neg hN.out.2.2.1, if_neg hN.out.2.2.2.1, if_neg hN.out.2.2.2.2.1, if_neg hN.out.2.2.2.2.2.1, if_pos hN.out.2.2.2.2.2.2.1]
        rw [HSt.out.1, HSt.out.2.1]
        exact TAIL.out _ _ _ ⟨rfl, q2, HR2.out, HF2.out⟩
      ·-- a sign
       have hN := hide (show ¬ isL c = true ∧ ¬ isD c = true ∧ c ≠ 45 ∧ c ≠ 59 ∧ c ≠ 10 ∧ isS c = true ∧ True from ⟨by simp [hL], by simp [hD], by simpa using h45, by simpa using h59, by simpa using h10, hSg, trivial⟩)
       go_wp2_with (first | (go_at_call 174; (with_reducible refine (letter_any _ _).mono ?_); rintro e w' ⟨rfl, rfl⟩) | (go_at_call 175; (with_reducible refine (digit_any _ _).mono ?_); rintro e w' ⟨rfl, rfl⟩) | (go_at_call 189; (with_reducible refine (sign_any _ _).mono ?_); rintro e w' ⟨rfl, rfl⟩) | (go_at_call 172; refine (CP.out 3 0 (Utf8.encode c) ⟨by decide, by decide⟩ ⟨by decide, by decide⟩ (by have := encode_size_le c; unfold maxLen; omega)).mono ?_; rintro e w2 ⟨rfl, q2, hR2, hF2⟩; have HR2 := hide hR2; have HF2 := hide hF2; clear hR2 hF2))
       go_end0
       rw [E1.out, if_neg hN.out.1, if_neg hN.out.2.1, if_neg hN.out.2.2.1, if_neg hN.out.2.2.2.1, if_neg hN.out.2.2.2.2.1, if_pos hN.out.2.2.2.2.2.1]
       exact TAIL.out _ _ _ ⟨rfl, q2, HR2.out, HF2.out⟩
     ·-- an end
      have hN := hide (show ¬ isL c = true ∧ ¬ isD c = true ∧ c ≠ 45 ∧ c ≠ 59 ∧ c = 10 ∧ True from ⟨by simp [hL], by simp [hD], by simpa using h45, by simpa using h59, by simpa using h10, trivial⟩)
      go_wp2_with (first | (go_at_call 174; (with_reducible refine (letter_any _ _).mono ?_); rintro e w' ⟨rfl, rfl⟩) | (go_at_call 175; (with_reducible refine (digit_any _ _).mono ?_); rintro e w' ⟨rfl, rfl⟩) | (go_at_call 189; (with_reducible refine (sign_any _ _).mono ?_); rintro e w' ⟨rfl, rfl⟩) | (go_at_call 172; refine (CP.out 4 0 ByteArray.empty ⟨by decide, by decide⟩ ⟨by decide, by decide⟩ (by decide)).mono ?_; rintro e w2 ⟨rfl, q2, hR2, hF2⟩; have HR2 := hide hR2; have HF2 := hide hF2; clear hR2 hF2))
      go_end0
      rw [E1.out, if_neg hN.out.1, if_neg hN.out.2.1, if_neg hN.out.2.2.1, if_neg hN.out.2.2.2.1, if_pos hN.out.2.2.2.2.1]
      exact TAIL.out _ _ _ ⟨rfl, q2, HR2.out, HF2.out⟩
    ·-- a remark
     have hN := hide (show ¬ isL c = true ∧ ¬ isD c = true ∧ c ≠ 45 ∧ c = 59 ∧ True from ⟨by simp [hL], by simp [hD], by simpa using h45, by simpa using h59, trivial⟩)
     go_wp2_with (first | (go_at_call 174; (with_reducible refine (letter_any _ _).mono ?_); rintro e w' ⟨rfl, rfl⟩) | (go_at_call 175; (with_reducible refine (digit_any _ _).mono ?_); rintro e w' ⟨rfl, rfl⟩) | (go_at_call 189; (with_reducible refine (sign_any _ _).mono ?_); rintro e w' ⟨rfl, rfl⟩))
     go_end0
     rw [E1.out, if_neg hN.out.1, if_neg hN.out.2.1, if_neg hN.out.2.2.1, if_pos hN.out.2.2.2.1]
     exact FIN.out 1
   ·-- a minus
    have hN := hide (show ¬ isL c = true ∧ ¬ isD c = true ∧ c = 45 ∧ True from ⟨by simp [hL], by simp [hD], by simpa using h45, trivial⟩)
    go_wp2_with (first | (go_at_call 174; (with_reducible refine (letter_any _ _).mono ?_); rintro e w' ⟨rfl, rfl⟩) | (go_at_call 175; (with_reducible refine (digit_any _ _).mono ?_); rintro e w' ⟨rfl, rfl⟩) | (go_at_call 189; (with_reducible refine (sign_any _ _).mono ?_); rintro e w' ⟨rfl, rfl⟩))
    go_end0
    rw [E1.out, if_neg hN.out.1, if_neg hN.out.2.1, if_pos hN.out.2.2.1]
    exact FIN.out 3
  ·-- a digit
   have hN := hide (show ¬ isL c = true ∧ isD c = true ∧ True from ⟨by simp [hL], hD, trivial⟩)
   go_wp2_with (first | (go_at_call 174; (with_reducible refine (letter_any _ _).mono ?_); rintro e w' ⟨rfl, rfl⟩) | (go_at_call 175; (with_reducible refine (digit_any _ _).mono ?_); rintro e w' ⟨rfl, rfl⟩) | (go_at_call 189; (with_reducible refine (sign_any _ _).mono ?_); rintro e w' ⟨rfl, rfl⟩))
   go_end0
   rw [E1.out, if_neg hN.out.1, if_pos hN.out.2.1]
   exact FIN.out 4
 ·have hN := hide hL
  go_wp2_with (first | (go_at_call 174; (with_reducible refine (letter_any _ _).mono ?_); rintro e w' ⟨rfl, rfl⟩) | (go_at_call 175; (with_reducible refine (digit_any _ _).mono ?_); rintro e w' ⟨rfl, rfl⟩) | (go_at_call 189; (with_reducible refine (sign_any _ _).mono ?_); rintro e w' ⟨rfl, rfl⟩))
  go_end0
  rw [E1.out, if_pos hN.out]
  exact FIN.out 2
end Go.Proofs.YtljglhaeonbfoaaGreatDoor
