/- word.Read: the reader over a whole text. -/
import Derived.Test.YtppkanniefignaaGreatDoorG8
import Derived.Test.YtppkanniefignaaGreatDoorG6
import Derived.Lib.OthersKept
set_option linter.unusedSimpArgs false
set_option linter.unusedVariables false
namespace Go.Proofs.YtppkanniefignaaGreatDoor
open Go.RowKit

theorem results_tmp4 {fn : Func} {t u v x : Tmp} (h : fn.results = #[.tmp t, .tmp u, .tmp v, .tmp x]) (tmps : Array Value) (P : Program) (w : World) :
    (results fn tmps).run P w = .ok (.tuple #[tmps.getD t undef, tmps.getD u undef, tmps.getD v undef, tmps.getD x undef]) w := by
  simp [results, h]
/-- What reading a text leaves. -/
def RetRd (w : World) (r : ReadR) (e : Ending) (w' : World) : Prop := ∃ A n c, e = .returned (.tuple #[.slice A n c, .int .i64 r.line, .int .i64 r.col, .int .i64 r.err]) ∧ Sl w' (fun b => w.heap.size ≤ b) A n c r.words ∧ ∃ u : Ext, w' = w.ext u
theorem RdAt.iterAt {w : World} {base R : Nat} {q : RdM} {st : St} (h : RdAt w base R q st) {k : Nat} {s : ByteArray} {pos : Nat} (hk : w.heap[k]? = some (.stringIter s pos)) (pos' : Nat) : RdAt (w.iterAt k s pos') base R q st :=
  h.keepB (by rw [Lib.iterAt_size]; exact Nat.le_refl _) fun b _ hb => by
    refine Lib.iterAt_other _ _ _ _ _ ?_
    rintro rfl
    obtain ⟨_, c, t, f, h2⟩ := h.mine_cells hb
    rw [hk] at h2; cases h2

set_option maxRecDepth 100000 in
set_option maxHeartbeats 40000000 in
theorem read_any (s : ByteArray) (w : World) (hs : s.size ≤ 34359738368) (hv : Vars w) : Calls Tryz.prog 62 #[.string s] w (RetRd w (resS (runS (items s 0) st0))) := by
  have HV := hide hv; have HZ := hide hs
  have H7 := hide hv.sz
  clear hv hs
  obtain ⟨R0, hR0⟩ : ∃ R0, resS (runS (items s 0) st0) = R0 := ⟨_, rfl⟩
  rw [hR0]
  have HR0 := hide hR0; clear hR0
  go_enter Tryz.func62, Tryz.ntmps62
  go_wp2_with fail
  go_loopw [] (fun wr => ∃ (pos k : Nat) (st : St) (q : RdM), RdAt wr w.heap.size w.heap.size q st ∧ wr.heap[w.heap.size + 1]? = some (.stringIter s pos) ∧ Below w.heap.size w wr ∧ resS (runS (items s pos) st) = R0 ∧ Small st k ∧ k ≤ pos + 1 ∧ pos ≤ s.size) (fun wr => s.size - wr.iterPos (w.heap.size + 1))
  case atStart =>
    refine ⟨0, 1, st0, ⟨.slice none 0 0, .slice none 0 0⟩, ?_, ?_, ((Below.refl _ w).alloc (Nat.le_refl _) _).alloc (by simp) _, HR0.out, ⟨by decide, by decide, by decide, by decide, by decide, by decide, by decide, by decide, by decide, by decide⟩, by omega, by omega⟩
    · refine RdAt.alloc ?_ _
      exact ⟨Nat.le_refl _, heap_alloc_new w _, OwnL.nil_ _ _ _ _, OwnL.nil_ _ _ _ _, fun e => by simp [Value.ownBlock] at e, fun e => by simp [Value.ownBlock] at e, fun g e => by simp [Value.ownBlock] at e⟩
    · have := World.iter_heap (w.alloc (.cells #[.int .i64 1, .int .i64 1, .int .i64 0, .int .i64 0, .int .i64 0, .slice none 0 0, .bool false, .slice none 0 0, .int .i64 0, .int .i64 0, .int .i64 0] 171)) s 0
      simpa using this
  case round =>
    obtain ⟨pos, k, st, q, hR, hit, hbw, hrun, hsm, hk, hps⟩ := hrel
    have HR := hide hR; have HB := hide hbw; have HRUN := hide hrun; have HSM := hide hsm; have HKP := hide hk; have HPS := hide hps
    have HVR := hide (HV.out.below hbw H7.out)
    clear hR hbw hrun hsm hk
    have hsz : w.heap.size + 1 < wr.heap.size := (Array.getElem?_eq_some_iff.1 hit).1
    have HK68 := hide (show k ≤ 68719476736 by have := HKP.out; have := HPS.out; have := HZ.out; omega)
    by_cases hp : pos < s.size
    · have hnx : ∀ ty, (Instr.next (.pointer (some ⟨w.heap.size + 1, 0, none⟩)) true ty).run Tryz.prog wr = _ := fun ty => Lib.run_next_any_at wr (w.heap.size + 1) s pos ty hit hp
      obtain ⟨W1, hW1⟩ : ∃ W1, wr.iterAt (w.heap.size + 1) s (pos + (Utf8.decode s pos).2) = W1 := ⟨_, rfl⟩
      have HR1 := hide (show RdAt W1 w.heap.size w.heap.size q st by rw [← hW1]; exact HR.out.iterAt hit _)
      have HI1 := hide (show W1.heap[w.heap.size + 1]? = some (.stringIter s (pos + (Utf8.decode s pos).2)) by rw [← hW1]; exact Lib.iterAt_heap wr (w.heap.size + 1) s pos _ hit)
      have HB1 := hide (show Below w.heap.size w W1 by rw [← hW1]; exact Lib.below_iterAt HB.out (k := w.heap.size + 1) (by omega) s _)
      have HV1 := hide (HV.out.below HB1.out H7.out)
      have HWD := hide (Lib.decode_width_pos s pos hp)
      have HWL := hide (width_le hp)
      have HG1 := hide (items_good hp); have HG0 := hide (items_bad hp)
      have HGN := hide (@good_not s pos); have HGF := hide (fun h => good_ff hp h)
      rw [hW1] at hnx
      clear hW1
      generalize hr : (Utf8.decode s pos).1 = r at hnx HG1 HGN HGF
      generalize hwd : (Utf8.decode s pos).2 = wd at HI1 HWD HWL HG1
      clear hr hwd
      have hlt1 := HR1.out.lt; have k0 := HR1.out.k0; have k1 := HR1.out.k1; have k8 := HR1.out.k8
      have hsl0 : 0 ≤ pos := Nat.zero_le _
      -- a rune that is well written
      have good : goodAt s pos = true → True := fun _ => trivial
      clear good
      obtain ⟨g, hg⟩ : ∃ g, goodAt s pos = g := ⟨_, rfl⟩
      rw [hg] at HG1 HG0 HGN HGF
      have HGG := hide hg; clear hg

      cases hff : ((r : Int) == 65533)
      · have hgt : g = true := HGN.out (by intro h; rw [h] at hff; exact absurd hff (by decide))
        subst hgt
        have HIT := hide (HG1.out rfl)
        by_cases hwz : st.wrong = 0
        · have HWZ := hide hwz
          rw [hwz] at k8
          clear hwz
          have HTK := hide (take_any W1 w.heap.size w.heap.size q st HR1.out HV1.out H7.out k HSM.out HK68.out (r : Int))
          go_wp2_with (first | fail | (go_at_call 127; refine HTK.out.mono ?_; rintro e w2 ⟨rfl, q2, hR2, hF2⟩; have HR2 := hide hR2; have HF2 := hide hF2; have lt2 := hR2.lt; clear hR2 hF2))
          have hts := takeS_small HSM.out (r : Int)
          have HOV := hide (over_any w2 w.heap.size w.heap.size q2 _ HR2.out (r : Int) (by rw [hts.1]; exact HSM.out.l0) (by rw [hts.1]; have := HSM.out.l1; have := HK68.out; omega) (by rw [hts.2.1]; exact HSM.out.c0) (by rw [hts.2.1]; have := HSM.out.c1; have := HK68.out; omega))
          clear hts
          go_wp2_with (go_at_call 128; refine HOV.out.mono ?_; rintro e w3 ⟨rfl, q3, hR3, hF3⟩; have HR3 := hide hR3; have HF3 := hide hF3; clear hR3 hF3)
          have HIT3 := hide (HF3.out.other HR2.out (HF2.out.other HR1.out HI1.out (fun _ _ _ h => by cases h)) (fun _ _ _ h => by cases h))
          go_roundw
          case rel =>
            refine ⟨pos + wd, k + 1, _, q3, HR3.out, HIT3.out, (HB1.out.trans (HF2.out.below HR1.out)).trans (HF3.out.below HR2.out), ?_, HSM.out.step _, by have := HKP.out; have := HWD.out; omega, HWL.out⟩
            rw [← HRUN.out, HIT.out, runS_cons, if_neg (show ¬ ((r : Int) < 0) by omega), if_neg (by simp [HWZ.out])]
          case measure =>
            simp only [World.iterPos, HIT3.out, hit]
            have := HWD.out; omega
        · have hw1' : (st.wrong != 0) = true := by simpa [bne] using hwz
          have hw2' : (st.wrong == 0) = false := by simpa using hwz
          have HWZ := hide hwz
          clear hwz
          go_wp2_with (first | fail)
          have HC := hide (close_any W1 w.heap.size w.heap.size q st HR1.out HV1.out (k) HSM.out (by have := HK68.out; omega))
          have HXX := hide (show resS (closeS st) = R0 from by rw [← HRUN.out, HIT.out, runS_cons, if_neg (show ¬ ((r : Int) < 0) by omega), if_pos HWZ.out])
          have HBB := hide (show Below w.heap.size w W1 from HB1.out)
          have HRR := hide (show RdAt W1 w.heap.size w.heap.size q st from HR1.out)
          obtain ⟨Y, hY⟩ : ∃ Y, closeS st = Y := ⟨_, rfl⟩
          rw [hY] at HC HXX
          clear hY
          by_cases hw : Y.wrong = 0
          · have HW := hide hw; clear hw
            go_wp2_with (first | (go_at_call 125; refine HC.out.mono ?_; rintro e w5 ⟨rfl, q5, hR5, hF5⟩; have HR5 := hide hR5; have HB5 := hide (HBB.out.trans (hF5.below HRR.out)); have hlt5 := hR5.lt; have y8 := hR5.k8; have y9 := hR5.k9; have y10 := hR5.k10; obtain ⟨Aw, cw, hwv⟩ := hR5.words.form; have y7 := hR5.k7; rw [hwv] at y7; have HO5 := hide hR5.words; rw [hwv] at HO5; clear hR5 hF5 hwv; rw [HW.out] at y8))
            refine bodyPost_ret (results_tmp4 rfl _ _ _) rfl ?_
            have e : R0 = ⟨Y.words, 0, 0, 0⟩ := by rw [← HXX.out]; unfold resS; rw [if_neg (by simp [HW.out])]
            rw [e]
            exact ⟨Aw, _, cw, rfl, HO5.out.sl (fun b _ h => by rcases h with h | h; exact h.elim; exact h), HB5.out.to_ext⟩
          · have HW := hide hw
            have hw1 : (Y.wrong != 0) = true := by simpa [bne] using hw
            have hw2 : (Y.wrong == 0) = false := by simpa using hw
            clear hw
            go_wp2_with (first | (go_at_call 125; refine HC.out.mono ?_; rintro e w5 ⟨rfl, q5, hR5, hF5⟩; have HR5 := hide hR5; have HB5 := hide (HBB.out.trans (hF5.below HRR.out)); have hlt5 := hR5.lt; have y8 := hR5.k8; have y9 := hR5.k9; have y10 := hR5.k10; obtain ⟨Aw, cw, hwv⟩ := hR5.words.form; have y7 := hR5.k7; rw [hwv] at y7; have HO5 := hide hR5.words; rw [hwv] at HO5; clear hR5 hF5 hwv))
            refine wp_region_ext (by kernel_rfl) (by kernel_rfl) ?_
            repeat (any_goals (first | go_big_quiet_step ((fail)) | quiet_step ((fail))))
            refine wpQuiet_nil ?_
            rintro _ ⟨uq, rfl⟩
            go_wp2_with fail
            refine bodyPost_ret (results_tmp4 rfl _ _ _) rfl ?_
            have e : R0 = errR Y.al Y.ac Y.wrong := by rw [← HXX.out]; exact res_wrong HW.out
            rw [e]
            exact ⟨none, 0, 0, rfl, Sl.nil, (HB5.out.ext HB5.out.size _).to_ext⟩
      · have HE := hide (HGF.out (by simp only [beq_iff_eq] at hff; omega))
        have HHP := hide (show ∀ W, Calls Tryz.prog 123 #[.string (s.extract pos s.size), .string ⟨#[239, 191, 189]⟩] W (Ret (.bool g) W) from fun W => (Tryz.strings_HasPrefix _ _ W).mono (fun e w' ⟨a, b⟩ => ⟨by rw [a, HE.out], b.symm⟩))
        clear HE
        cases g
        · -- a byte that opens none
          have HIT := hide (HG0.out rfl)
          have HCB := hide (close_any W1 w.heap.size w.heap.size q st HR1.out HV1.out k HSM.out (by have := HK68.out; omega))
          go_wp2_with (first | (go_at_call 123; (refine (HHP.out _).mono ?_); rintro e w' ⟨rfl, rfl⟩) | (go_at_call 125; refine HCB.out.mono ?_; rintro e w2 ⟨rfl, q2, hR2, hF2⟩; have HR2 := hide hR2; have HF2 := hide hF2; have y0 := hR2.k0; have y1 := hR2.k1; have lt2 := hR2.lt; clear hR2 hF2))
          have HFL := hide (fail_any w2 w.heap.size w.heap.size q2 (closeS st) HR2.out 6 (closeS st).line (closeS st).col)
          have hnw : (failS 6 (closeS st).line (closeS st).col (closeS st)).wrong ≠ 0 := by unfold failS; split; simp; assumption
          have hw1' : ((failS 6 (closeS st).line (closeS st).col (closeS st)).wrong != 0) = true := by simpa [bne] using hnw
          have hw2' : ((failS 6 (closeS st).line (closeS st).col (closeS st)).wrong == 0) = false := by simpa using hnw
          clear hnw
          have HSM2 := hide (HSM.out.closeS.failS 6 (closeS st).line (closeS st).col)
          have HFIN := hide (show resS (closeS (failS 6 (closeS st).line (closeS st).col (closeS st))) = R0 by rw [← HRUN.out, HIT.out, runS_cons, if_pos (by decide)])
          obtain ⟨X, hX⟩ : ∃ X, failS 6 (closeS st).line (closeS st).col (closeS st) = X := ⟨_, rfl⟩
          rw [hX] at HFL hw1' hw2' HSM2 HFIN
          clear hX
          go_wp2_with (go_at_call 126; refine HFL.out.mono ?_; rintro e w3 ⟨rfl, q3, hR3, hF3⟩; have HR3 := hide hR3; have HF3 := hide hF3; have lt3 := hR3.lt; have z8 := hR3.k8; clear hR3 hF3)
          have HB3 := hide ((HB1.out.trans (HF2.out.below HR1.out)).trans (HF3.out.below HR2.out))
          have HC := hide (close_any w3 w.heap.size w.heap.size q3 X HR3.out (HV.out.below HB3.out H7.out) (k + 1) HSM2.out (by have := HK68.out; omega))
          have HXX := hide (show resS (closeS X) = R0 from HFIN.out)
          have HBB := hide (show Below w.heap.size w w3 from HB3.out)
          have HRR := hide (show RdAt w3 w.heap.size w.heap.size q3 X from HR3.out)
          obtain ⟨Y, hY⟩ : ∃ Y, closeS X = Y := ⟨_, rfl⟩
          rw [hY] at HC HXX
          clear hY
          by_cases hw : Y.wrong = 0
          · have HW := hide hw; clear hw
            go_wp2_with (first | (go_at_call 125; refine HC.out.mono ?_; rintro e w5 ⟨rfl, q5, hR5, hF5⟩; have HR5 := hide hR5; have HB5 := hide (HBB.out.trans (hF5.below HRR.out)); have hlt5 := hR5.lt; have y8 := hR5.k8; have y9 := hR5.k9; have y10 := hR5.k10; obtain ⟨Aw, cw, hwv⟩ := hR5.words.form; have y7 := hR5.k7; rw [hwv] at y7; have HO5 := hide hR5.words; rw [hwv] at HO5; clear hR5 hF5 hwv; rw [HW.out] at y8))
            refine bodyPost_ret (results_tmp4 rfl _ _ _) rfl ?_
            have e : R0 = ⟨Y.words, 0, 0, 0⟩ := by rw [← HXX.out]; unfold resS; rw [if_neg (by simp [HW.out])]
            rw [e]
            exact ⟨Aw, _, cw, rfl, HO5.out.sl (fun b _ h => by rcases h with h | h; exact h.elim; exact h), HB5.out.to_ext⟩
          · have HW := hide hw
            have hw1 : (Y.wrong != 0) = true := by simpa [bne] using hw
            have hw2 : (Y.wrong == 0) = false := by simpa using hw
            clear hw
            go_wp2_with (first | (go_at_call 125; refine HC.out.mono ?_; rintro e w5 ⟨rfl, q5, hR5, hF5⟩; have HR5 := hide hR5; have HB5 := hide (HBB.out.trans (hF5.below HRR.out)); have hlt5 := hR5.lt; have y8 := hR5.k8; have y9 := hR5.k9; have y10 := hR5.k10; obtain ⟨Aw, cw, hwv⟩ := hR5.words.form; have y7 := hR5.k7; rw [hwv] at y7; have HO5 := hide hR5.words; rw [hwv] at HO5; clear hR5 hF5 hwv))
            refine wp_region_ext (by kernel_rfl) (by kernel_rfl) ?_
            repeat (any_goals (first | go_big_quiet_step ((fail)) | quiet_step ((fail))))
            refine wpQuiet_nil ?_
            rintro _ ⟨uq, rfl⟩
            go_wp2_with fail
            refine bodyPost_ret (results_tmp4 rfl _ _ _) rfl ?_
            have e : R0 = errR Y.al Y.ac Y.wrong := by rw [← HXX.out]; exact res_wrong HW.out
            rw [e]
            exact ⟨none, 0, 0, rfl, Sl.nil, (HB5.out.ext HB5.out.size _).to_ext⟩
        · -- U+FFFD itself
          have HIT := hide (HG1.out rfl)
          by_cases hwz : st.wrong = 0
          · have HWZ := hide hwz
            rw [hwz] at k8
            clear hwz
            have HTK := hide (take_any W1 w.heap.size w.heap.size q st HR1.out HV1.out H7.out k HSM.out HK68.out (r : Int))
            go_wp2_with (first | (go_at_call 123; (refine (HHP.out _).mono ?_); rintro e w' ⟨rfl, rfl⟩) | (go_at_call 127; refine HTK.out.mono ?_; rintro e w2 ⟨rfl, q2, hR2, hF2⟩; have HR2 := hide hR2; have HF2 := hide hF2; have lt2 := hR2.lt; clear hR2 hF2))
            have hts := takeS_small HSM.out (r : Int)
            have HOV := hide (over_any w2 w.heap.size w.heap.size q2 _ HR2.out (r : Int) (by rw [hts.1]; exact HSM.out.l0) (by rw [hts.1]; have := HSM.out.l1; have := HK68.out; omega) (by rw [hts.2.1]; exact HSM.out.c0) (by rw [hts.2.1]; have := HSM.out.c1; have := HK68.out; omega))
            clear hts
            go_wp2_with (go_at_call 128; refine HOV.out.mono ?_; rintro e w3 ⟨rfl, q3, hR3, hF3⟩; have HR3 := hide hR3; have HF3 := hide hF3; clear hR3 hF3)
            have HIT3 := hide (HF3.out.other HR2.out (HF2.out.other HR1.out HI1.out (fun _ _ _ h => by cases h)) (fun _ _ _ h => by cases h))
            go_roundw
            case rel =>
              refine ⟨pos + wd, k + 1, _, q3, HR3.out, HIT3.out, (HB1.out.trans (HF2.out.below HR1.out)).trans (HF3.out.below HR2.out), ?_, HSM.out.step _, by have := HKP.out; have := HWD.out; omega, HWL.out⟩
              rw [← HRUN.out, HIT.out, runS_cons, if_neg (show ¬ ((r : Int) < 0) by omega), if_neg (by simp [HWZ.out])]
            case measure =>
              simp only [World.iterPos, HIT3.out, hit]
              have := HWD.out; omega
          · have hw1' : (st.wrong != 0) = true := by simpa [bne] using hwz
            have hw2' : (st.wrong == 0) = false := by simpa using hwz
            have HWZ := hide hwz
            clear hwz
            go_wp2_with (first | (go_at_call 123; (refine (HHP.out _).mono ?_); rintro e w' ⟨rfl, rfl⟩))
            have HC := hide (close_any W1 w.heap.size w.heap.size q st HR1.out HV1.out (k) HSM.out (by have := HK68.out; omega))
            have HXX := hide (show resS (closeS st) = R0 from by rw [← HRUN.out, HIT.out, runS_cons, if_neg (show ¬ ((r : Int) < 0) by omega), if_pos HWZ.out])
            have HBB := hide (show Below w.heap.size w W1 from HB1.out)
            have HRR := hide (show RdAt W1 w.heap.size w.heap.size q st from HR1.out)
            obtain ⟨Y, hY⟩ : ∃ Y, closeS st = Y := ⟨_, rfl⟩
            rw [hY] at HC HXX
            clear hY
            by_cases hw : Y.wrong = 0
            · have HW := hide hw; clear hw
              go_wp2_with (first | (go_at_call 125; refine HC.out.mono ?_; rintro e w5 ⟨rfl, q5, hR5, hF5⟩; have HR5 := hide hR5; have HB5 := hide (HBB.out.trans (hF5.below HRR.out)); have hlt5 := hR5.lt; have y8 := hR5.k8; have y9 := hR5.k9; have y10 := hR5.k10; obtain ⟨Aw, cw, hwv⟩ := hR5.words.form; have y7 := hR5.k7; rw [hwv] at y7; have HO5 := hide hR5.words; rw [hwv] at HO5; clear hR5 hF5 hwv; rw [HW.out] at y8))
              refine bodyPost_ret (results_tmp4 rfl _ _ _) rfl ?_
              have e : R0 = ⟨Y.words, 0, 0, 0⟩ := by rw [← HXX.out]; unfold resS; rw [if_neg (by simp [HW.out])]
              rw [e]
              exact ⟨Aw, _, cw, rfl, HO5.out.sl (fun b _ h => by rcases h with h | h; exact h.elim; exact h), HB5.out.to_ext⟩
            · have HW := hide hw
              have hw1 : (Y.wrong != 0) = true := by simpa [bne] using hw
              have hw2 : (Y.wrong == 0) = false := by simpa using hw
              clear hw
              go_wp2_with (first | (go_at_call 125; refine HC.out.mono ?_; rintro e w5 ⟨rfl, q5, hR5, hF5⟩; have HR5 := hide hR5; have HB5 := hide (HBB.out.trans (hF5.below HRR.out)); have hlt5 := hR5.lt; have y8 := hR5.k8; have y9 := hR5.k9; have y10 := hR5.k10; obtain ⟨Aw, cw, hwv⟩ := hR5.words.form; have y7 := hR5.k7; rw [hwv] at y7; have HO5 := hide hR5.words; rw [hwv] at HO5; clear hR5 hF5 hwv))
              refine wp_region_ext (by kernel_rfl) (by kernel_rfl) ?_
              repeat (any_goals (first | go_big_quiet_step ((fail)) | quiet_step ((fail))))
              refine wpQuiet_nil ?_
              rintro _ ⟨uq, rfl⟩
              go_wp2_with fail
              refine bodyPost_ret (results_tmp4 rfl _ _ _) rfl ?_
              have e : R0 = errR Y.al Y.ac Y.wrong := by rw [← HXX.out]; exact res_wrong HW.out
              rw [e]
              exact ⟨none, 0, 0, rfl, Sl.nil, (HB5.out.ext HB5.out.size _).to_ext⟩
    · have hnx : ∀ ty, (Instr.next (.pointer (some ⟨w.heap.size + 1, 0, none⟩)) true ty).run Tryz.prog wr = _ := fun ty => Lib.run_next_end_at wr (w.heap.size + 1) s pos ty hit hp
      have HEND := hide (items_end hp)
      have hltr := HR.out.lt
      go_wp2_with fail
      have HC := hide (close_any wr w.heap.size w.heap.size q st HR.out HVR.out (k) HSM.out (by have := HK68.out; omega))
      have HXX := hide (show resS (closeS st) = R0 from by rw [← HRUN.out, HEND.out]; rfl)
      have HBB := hide (show Below w.heap.size w wr from HB.out)
      have HRR := hide (show RdAt wr w.heap.size w.heap.size q st from HR.out)
      obtain ⟨Y, hY⟩ : ∃ Y, closeS st = Y := ⟨_, rfl⟩
      rw [hY] at HC HXX
      clear hY
      by_cases hw : Y.wrong = 0
      · have HW := hide hw; clear hw
        go_wp2_with (first | (go_at_call 125; refine HC.out.mono ?_; rintro e w5 ⟨rfl, q5, hR5, hF5⟩; have HR5 := hide hR5; have HB5 := hide (HBB.out.trans (hF5.below HRR.out)); have hlt5 := hR5.lt; have y8 := hR5.k8; have y9 := hR5.k9; have y10 := hR5.k10; obtain ⟨Aw, cw, hwv⟩ := hR5.words.form; have y7 := hR5.k7; rw [hwv] at y7; have HO5 := hide hR5.words; rw [hwv] at HO5; clear hR5 hF5 hwv; rw [HW.out] at y8))
        refine bodyPost_ret (results_tmp4 rfl _ _ _) rfl ?_
        have e : R0 = ⟨Y.words, 0, 0, 0⟩ := by rw [← HXX.out]; unfold resS; rw [if_neg (by simp [HW.out])]
        rw [e]
        exact ⟨Aw, _, cw, rfl, HO5.out.sl (fun b _ h => by rcases h with h | h; exact h.elim; exact h), HB5.out.to_ext⟩
      · have HW := hide hw
        have hw1 : (Y.wrong != 0) = true := by simpa [bne] using hw
        have hw2 : (Y.wrong == 0) = false := by simpa using hw
        clear hw
        go_wp2_with (first | (go_at_call 125; refine HC.out.mono ?_; rintro e w5 ⟨rfl, q5, hR5, hF5⟩; have HR5 := hide hR5; have HB5 := hide (HBB.out.trans (hF5.below HRR.out)); have hlt5 := hR5.lt; have y8 := hR5.k8; have y9 := hR5.k9; have y10 := hR5.k10; obtain ⟨Aw, cw, hwv⟩ := hR5.words.form; have y7 := hR5.k7; rw [hwv] at y7; have HO5 := hide hR5.words; rw [hwv] at HO5; clear hR5 hF5 hwv))
        refine wp_region_ext (by kernel_rfl) (by kernel_rfl) ?_
        repeat (any_goals (first | go_big_quiet_step ((fail)) | quiet_step ((fail))))
        refine wpQuiet_nil ?_
        rintro _ ⟨uq, rfl⟩
        go_wp2_with fail
        refine bodyPost_ret (results_tmp4 rfl _ _ _) rfl ?_
        have e : R0 = errR Y.al Y.ac Y.wrong := by rw [← HXX.out]; exact res_wrong HW.out
        rw [e]
        exact ⟨none, 0, 0, rfl, Sl.nil, (HB5.out.ext HB5.out.size _).to_ext⟩
end Go.Proofs.YtppkanniefignaaGreatDoor
