/- The reader's methods: close, take. The reader takes a rune. word.Read: the reader over a whole text. -/
import Derived.Test.YtljglhaeonbfoaaGreatDoorG5
import Derived.Test.YtljglhaeonbfoaaGreatDoorG6
import Derived.Lib.OthersKept
set_option linter.unusedSimpArgs false
set_option linter.unusedVariables false
namespace Go.Proofs.YtljglhaeonbfoaaGreatDoor
open Go.RowKit
theorem RdAt.close_end {w W : World} {base R : Nat} {q q' : RdM} {x : St} (h : RdAt W base R q' x) (f : RdFr q q' R w W) :
  RdP base R q w { x with text := [], state := 0 } (.returned (.tuple #[])) ((W.setCell ⟨R, 5, none⟩ (.slice none 0 0)).setCell ⟨R, 2, none⟩ (.int .i64 0)) := by
 have h1 := h.put_text (v := .slice none 0 0) (l := []) (World.grownBy.refl W none) (fun g e => by cases e) (OwnL.nil_ W base _ _) (fun e => by simp [Value.ownBlock] at e) (fun g e => by simp [Value.ownBlock] at e)
 have h2 : RdAt ((W.setCell ⟨R, 5, none⟩ (.slice none 0 0)).setCell ⟨R, 2, none⟩ (.int .i64 0)) base R { q' with tv := .slice none 0 0 } { x with text := [], state := 0 } := h1.put_ rfl rfl rfl
 refine ⟨rfl, _, h2, f.trans ?_⟩
 have e : RdFr q' { q' with tv := .slice none 0 0 } R W (W.setCell ⟨R, 5, none⟩ (.slice none 0 0)) := (RdFr.refl (q := q') (R := R)).swap 5 _ (by
  rintro b (e | e | e)
  ·exact .inl (.inl e)
  ·simp [Value.ownBlock] at e
  ·exact .inl (.inr (.inr e)))
 exact e.trans (RdFr.put _ _)
set_option maxRecDepth 100000 in
theorem close_any (w : World) (base R : Nat) (q : RdM) (st : St) (h : RdAt w base R q st) (hv : Vars w) (k : Nat) (hs : Small st k) (hk : k ≤ 137438953472) :
  Calls Tryz.prog 131 #[.pointer (some ⟨R, 0, none⟩)] w (RdP base R q w (closeS st)) := by
 have k2 := h.k2; have k3 := h.k3; have k4 := h.k4; have k5 := h.k5; have hlt := h.lt
 have f2 := h.fz 2; have f5 := h.fz 5
 have hcv := h.text.runes
 obtain ⟨At, ct, ht⟩ := h.text.form
 rw [rus_len] at ht
 rw [ht] at k5 hcv
 have HL := hide (show st.text.length ≤ k from hs.text)
 have cfail : ∀ (e : Int) (W : World), RdAt W base R q st → Calls Tryz.prog 132 #[.pointer (some ⟨R, 0, none⟩), .int .i64 e, .agg #[.int .i64 st.fl, .int .i64 st.fc]] W (RdP base R q W (failS e st.fl st.fc st)) := fun e W h => fail_any W base R q st h e st.fl st.fc
 have cput : ∀ (x : St) (W : World) (q' : RdM) (k' n : Int) (s : ByteArray), RdAt W base R q' x → x.fl = st.fl → x.fc = st.fc → x.words = st.words → InI k' → InI n → s.size ≤ maxLen → Calls Tryz.prog 172 #[.pointer (some ⟨R, 0, none⟩), .int .i64 k', .string s, .int .i64 n] W (RdP base R q' W (putS k' s n x)) := fun x W q' k' n s hx e1 e2 e3 hk' hn hs' =>
  put_any W base R q' x hx k' n s hk' hn hs' (by rw [e1]; exact InI.of_nat hs.fl0 hs.fl1 (by omega)) (by rw [e2]; exact InI.of_nat hs.fc0 hs.fc1 (by omega)) (by rw [e3]; have := hs.words; omega)
 have CF := hide cfail; have CP := hide cput; clear cfail cput
 have HR := hide h; have HV := hide hv; have HS := hide hs; have HK := hide hk
 clear h hv hs hk ht
 have hts : (runesBytes st.text).size ≤ 549755813888 := by have := runes_size st.text; have := HL.out; have := HK.out; omega
 have HTS := hide hts; clear hts
 have HN := hide (numN_in (runesBytes st.text))
 obtain ⟨tx, htx⟩ : ∃ tx, runesBytes st.text = tx := ⟨_, rfl⟩
 rw [htx] at hcv HTS HN
 have HTX := hide htx; clear htx
 generalize hn : st.text.length = n at k5 hcv HL
 have HNL := hide hn; clear hn
 by_cases h2 : st.state = 2
 ·rw [h2] at k2
  have H2 := hide h2; clear h2
  by_cases hb : 16 < n
  ·go_enter Tryz.func131, Tryz.ntmps131
   go_wp2_with (first | (go_at_call 132; refine (CF.out 3 w HR.out).mono ?_; rintro e w2 ⟨rfl, q2, hR2, hF2⟩; have HR2 := hide hR2; have HF2 := hide hF2; have y5 := hR2.k5; have y2 := hR2.k2; have g5 := hR2.fz 5; have g2 := hR2.fz 2; have lt2 := hR2.lt; clear hR2 hF2) | (go_at_call 172; refine (CP.out (failS 3 st.fl st.fc st) w2 q2 1 0 tx HR2.out (by unfold failS; split <;> rfl) (by unfold failS; split <;> rfl) (by unfold failS; split <;> rfl) ⟨by decide, by decide⟩ ⟨by decide, by decide⟩ (by have := HTS.out; unfold maxLen; omega)).mono ?_; rintro e w3 ⟨rfl, q3, hR3, hF3⟩; have HR3 := hide hR3; have HF3 := hide hF3; have z5 := hR3.k5; have z2 := hR3.k2; have l5 := hR3.fz 5; have l2 := hR3.fz 2; have lt3 := hR3.lt; clear hR3 hF3))
   go_end0
   have e : closeS st = { putS 1 tx 0 (failS 3 st.fl st.fc st) with text := [], state := 0 } := by rw [← HTX.out]; have hb' := hb; rw [← HNL.out] at hb'; simp only [closeS, H2.out, hb', if_true]
   rw [e]
   exact HR3.out.close_end (HF2.out.trans HF3.out)
  ·go_enter Tryz.func131, Tryz.ntmps131
   go_wp2_with (first | (go_at_call 172; refine (CP.out st w q 1 0 tx HR.out rfl rfl rfl ⟨by decide, by decide⟩ ⟨by decide, by decide⟩ (by have := HTS.out; unfold maxLen; omega)).mono ?_; rintro e w3 ⟨rfl, q3, hR3, hF3⟩; have HR3 := hide hR3; have HF3 := hide hF3; have z5 := hR3.k5; have z2 := hR3.k2; have l5 := hR3.fz 5; have l2 := hR3.fz 2; have lt3 := hR3.lt; clear hR3 hF3))
   go_end0
   have e : closeS st = { putS 1 tx 0 st with text := [], state := 0 } := by rw [← HTX.out]; have hb' := hb; rw [← HNL.out] at hb'; simp only [closeS, H2.out, hb', if_true, if_false]
   rw [e]
   exact HR3.out.close_end HF3.out
 ·by_cases h4 : st.state = 4
  ·rw [h4] at k2
   have H4 := hide h4; clear h4 h2
   obtain ⟨v, hvv⟩ : ∃ v, numN tx = v := ⟨_, rfl⟩
   have HVV := hide hvv
   have HNI := hide (show InI v by rw [← hvv]; exact HN.out)
   clear hvv
   cases hok : numOk tx
   ·have HOK := hide hok
    have ca := hide (atoi_no tx w (by have := HTS.out; omega) HV.out hok)
    clear hok
    rw [HVV.out] at ca
    go_enter Tryz.func131, Tryz.ntmps131
    go_wp2_with (first | (go_at_call 138; refine ca.out.mono ?_; rintro e _ ⟨N, rfl, u, rfl⟩; have HE := hide (HR.out.ext u); have HF1 := hide (RdFr.of_below (q := q) (R := R) (Below.of_ext w u (Nat.le_refl _)))) | (go_at_call 132; refine (CF.out 3 (w.ext u) HE.out).mono ?_; rintro e w2 ⟨rfl, q2, hR2, hF2⟩; have HR2 := hide hR2; have HF2 := hide hF2; have y5 := hR2.k5; have y2 := hR2.k2; have g5 := hR2.fz 5; have g2 := hR2.fz 2; have lt2 := hR2.lt; clear hR2 hF2) | (go_at_call 172; refine (CP.out (failS 3 st.fl st.fc st) w2 q2 2 v tx HR2.out (by unfold failS; split <;> rfl) (by unfold failS; split <;> rfl) (by unfold failS; split <;> rfl) ⟨by decide, by decide⟩ HNI.out (by have := HTS.out; unfold maxLen; omega)).mono ?_; rintro e w3 ⟨rfl, q3, hR3, hF3⟩; have HR3 := hide hR3; have HF3 := hide hF3; have z5 := hR3.k5; have z2 := hR3.k2; have l5 := hR3.fz 5; have l2 := hR3.fz 2; have lt3 := hR3.lt; clear hR3 hF3))
    go_end0
    have hbad : numBad (runesBytes st.text) = true := by rw [HTX.out, numBad_eq, HOK.out, HVV.out]; rfl
    have e : closeS st = { putS 2 tx v (failS 3 st.fl st.fc st) with text := [], state := 0 } := by rw [← HVV.out, ← HTX.out]; simp only [closeS, H4.out, hbad]; rfl
    rw [e]
    exact HR3.out.close_end ((HF1.out.trans HF2.out).trans HF3.out)
   ·have HOK := hide hok
    have ca := hide (atoi_ok tx w (by have := HTS.out; omega) hok)
    clear hok
    rw [HVV.out] at ca
    by_cases hlo : v < -1099511627776
    ·go_enter Tryz.func131, Tryz.ntmps131
     go_wp2_with (first | (go_at_call 138; refine ca.out.mono ?_; rintro e _ ⟨rfl, u, rfl⟩; have HE := hide (HR.out.ext u); have HF1 := hide (RdFr.of_below (q := q) (R := R) (Below.of_ext w u (Nat.le_refl _)))) | (go_at_call 132; refine (CF.out 3 (w.ext u) HE.out).mono ?_; rintro e w2 ⟨rfl, q2, hR2, hF2⟩; have HR2 := hide hR2; have HF2 := hide hF2; have y5 := hR2.k5; have y2 := hR2.k2; have g5 := hR2.fz 5; have g2 := hR2.fz 2; have lt2 := hR2.lt; clear hR2 hF2) | (go_at_call 172; refine (CP.out (failS 3 st.fl st.fc st) w2 q2 2 v tx HR2.out (by unfold failS; split <;> rfl) (by unfold failS; split <;> rfl) (by unfold failS; split <;> rfl) ⟨by decide, by decide⟩ HNI.out (by have := HTS.out; unfold maxLen; omega)).mono ?_; rintro e w3 ⟨rfl, q3, hR3, hF3⟩; have HR3 := hide hR3; have HF3 := hide hF3; have z5 := hR3.k5; have z2 := hR3.k2; have l5 := hR3.fz 5; have l2 := hR3.fz 2; have lt3 := hR3.lt; clear hR3 hF3))
     go_end0
     have hbad : numBad (runesBytes st.text) = true := by rw [HTX.out, numBad_eq, HOK.out, HVV.out]; simp [hlo]
     have e : closeS st = { putS 2 tx v (failS 3 st.fl st.fc st) with text := [], state := 0 } := by rw [← HVV.out, ← HTX.out]; simp only [closeS, H4.out, hbad]; rfl
     rw [e]
     exact HR3.out.close_end ((HF1.out.trans HF2.out).trans HF3.out)
    ·by_cases hhi : 1099511627776 < v
     ·go_enter Tryz.func131, Tryz.ntmps131
      go_wp2_with (first | (go_at_call 138; refine ca.out.mono ?_; rintro e _ ⟨rfl, u, rfl⟩; have HE := hide (HR.out.ext u); have HF1 := hide (RdFr.of_below (q := q) (R := R) (Below.of_ext w u (Nat.le_refl _)))) | (go_at_call 132; refine (CF.out 3 (w.ext u) HE.out).mono ?_; rintro e w2 ⟨rfl, q2, hR2, hF2⟩; have HR2 := hide hR2; have HF2 := hide hF2; have y5 := hR2.k5; have y2 := hR2.k2; have g5 := hR2.fz 5; have g2 := hR2.fz 2; have lt2 := hR2.lt; clear hR2 hF2) | (go_at_call 172; refine (CP.out (failS 3 st.fl st.fc st) w2 q2 2 v tx HR2.out (by unfold failS; split <;> rfl) (by unfold failS; split <;> rfl) (by unfold failS; split <;> rfl) ⟨by decide, by decide⟩ HNI.out (by have := HTS.out; unfold maxLen; omega)).mono ?_; rintro e w3 ⟨rfl, q3, hR3, hF3⟩; have HR3 := hide hR3; have HF3 := hide hF3; have z5 := hR3.k5; have z2 := hR3.k2; have l5 := hR3.fz 5; have l2 := hR3.fz 2; have lt3 := hR3.lt; clear hR3 hF3))
      go_end0
      have hbad : numBad (runesBytes st.text) = true := by rw [HTX.out, numBad_eq, HOK.out, HVV.out]; simp [hhi]
      have e : closeS st = { putS 2 tx v (failS 3 st.fl st.fc st) with text := [], state := 0 } := by rw [← HVV.out, ← HTX.out]; simp only [closeS, H4.out, hbad]; rfl
      rw [e]
      exact HR3.out.close_end ((HF1.out.trans HF2.out).trans HF3.out)
     ·go_enter Tryz.func131, Tryz.ntmps131
      go_wp2_with (first | (go_at_call 138; refine ca.out.mono ?_; rintro e _ ⟨rfl, u, rfl⟩; have HE := hide (HR.out.ext u); have HF1 := hide (RdFr.of_below (q := q) (R := R) (Below.of_ext w u (Nat.le_refl _)))) | (go_at_call 172; refine (CP.out st (w.ext u) q 2 v tx HE.out rfl rfl rfl ⟨by decide, by decide⟩ HNI.out (by have := HTS.out; unfold maxLen; omega)).mono ?_; rintro e w3 ⟨rfl, q3, hR3, hF3⟩; have HR3 := hide hR3; have HF3 := hide hF3; have z5 := hR3.k5; have z2 := hR3.k2; have l5 := hR3.fz 5; have l2 := hR3.fz 2; have lt3 := hR3.lt; clear hR3 hF3))
      go_end0
      have hbad : numBad (runesBytes st.text) = false := by rw [HTX.out, numBad_eq, HOK.out, HVV.out]; simp [hlo, hhi]
      have e : closeS st = { putS 2 tx v st with text := [], state := 0 } := by rw [← HVV.out, ← HTX.out]; simp only [closeS, H4.out, hbad]; rfl
      rw [e]
      exact HR3.out.close_end (HF1.out.trans HF3.out)
  ·by_cases h3 : st.state = 3
   ·rw [h3] at k2
    have H3 := hide h3; clear h3 h4 h2
    go_enter Tryz.func131, Tryz.ntmps131
    go_wp2_with (first | (go_at_call 132; refine (CF.out 6 w HR.out).mono ?_; rintro e w2 ⟨rfl, q2, hR2, hF2⟩; have HR2 := hide hR2; have HF2 := hide hF2; have y5 := hR2.k5; have y2 := hR2.k2; have g5 := hR2.fz 5; have g2 := hR2.fz 2; have lt2 := hR2.lt; clear hR2 hF2))
    go_end0
    have e : closeS st = { failS 6 st.fl st.fc st with text := [], state := 0 } := by simp only [closeS, H3.out]; rfl
    rw [e]
    exact HR2.out.close_end HF2.out
   ·have b2 : (st.state == 2) = false := by simpa using h2
    have b3 : (st.state == 3) = false := by simpa using h3
    have b4 : (st.state == 4) = false := by simpa using h4
    have e : closeS st = { st with text := [], state := 0 } := by simp only [closeS, h2, h3, h4, if_false]
    rw [e]
    clear e h2 h3 h4
    go_enter Tryz.func131, Tryz.ntmps131
    go_wp2_with fail
    go_end0
    exact HR.out.close_end RdFr.refl
end Go.Proofs.YtljglhaeonbfoaaGreatDoor
namespace Go.Proofs.YtljglhaeonbfoaaGreatDoor
open Go.RowKit
theorem failS_words (e l c : Int) (st : St) : (failS e l c st).words = st.words ∧ (failS e l c st).line = st.line ∧ (failS e l c st).col = st.col ∧ (failS e l c st).fl = st.fl ∧ (failS e l c st).fc = st.fc ∧ (failS e l c st).text = st.text := by
 unfold failS; split <;> exact ⟨rfl, rfl, rfl, rfl, rfl, rfl⟩
theorem closeS_same (st : St) : (closeS st).line = st.line ∧ (closeS st).col = st.col ∧ (closeS st).fl = st.fl ∧ (closeS st).fc = st.fc ∧ (closeS st).text = [] ∧ (closeS st).words.length ≤ st.words.length + 1 := by
 unfold closeS
 simp only
 split
 ·split <;> simp [putS, failS_words]
 ·split
  ·split <;> simp [putS, failS_words]
  ·split <;> simp [failS_words]
theorem Small.closeS {st : St} {k : Nat} (h : Small st k) : Small (closeS st) (k + 1) := by
 obtain ⟨a, b, c, d, e, f⟩ := closeS_same st
 obtain ⟨h1, h2, h3, h4, h5, h6, h7, h8, h9, h10⟩ := h
 exact ⟨by omega, by omega, by omega, by omega, by omega, by omega, by omega, by omega, by rw [e]; simp, by omega⟩
theorem Small.failS {st : St} {k : Nat} (h : Small st k) (e l c : Int) : Small (failS e l c st) k := by
 obtain ⟨a1, a2, a3, a4, a5, a6⟩ := failS_words e l c st
 obtain ⟨h1, h2, h3, h4, h5, h6, h7, h8, h9, h10⟩ := h
 exact ⟨by omega, by omega, by omega, by omega, by omega, by omega, by omega, by omega, by rw [a6]; exact h9, by rw [a1]; exact h10⟩
theorem beginS_same (c : Int) (st : St) : (beginS c st).line = st.line ∧ (beginS c st).col = st.col ∧ (beginS c st).fl = st.line ∧ (beginS c st).fc = st.col ∧ (beginS c st).text = [c] ∧ (beginS c st).words.length ≤ st.words.length + 1 := by
 unfold beginS
 simp only
 repeat' split
 all_goals simp [putS, failS_words]
theorem takeS_small {st : St} {k : Nat} (h : Small st k) (c : Int) : (takeS c st).line = st.line ∧ (takeS c st).col = st.col ∧ 0 ≤ (takeS c st).fl ∧ (takeS c st).fl ≤ k ∧ 0 ≤ (takeS c st).fc ∧ (takeS c st).fc ≤ k ∧ (takeS c st).text.length ≤ k + 1 ∧ (takeS c st).words.length ≤ 2 * k + 2 := by
 obtain ⟨h1, h2, h3, h4, h5, h6, h7, h8, h9, h10⟩ := h
 unfold takeS
 split
 ·split
  ·obtain ⟨a1, a2, a3, a4, a5, a6⟩ := beginS_same c { st with state := 0 }
   refine ⟨a1, a2, ?_, ?_, ?_, ?_, ?_, ?_⟩
   ·rw [a3]; exact h1
   ·rw [a3]; exact h2
   ·rw [a4]; exact h3
   ·rw [a4]; exact h4
   ·rw [a5]; simp
   ·exact Nat.le_trans a6 (by show st.words.length + 1 ≤ _; omega)
  ·exact ⟨rfl, rfl, h5, h6, h7, h8, by omega, by omega⟩
 ·split
  ·exact ⟨rfl, rfl, h5, h6, h7, h8, by simp; omega, by simp; omega⟩
  ·split
   ·exact ⟨rfl, rfl, h5, h6, h7, h8, by simp; omega, by simp; omega⟩
   ·obtain ⟨X, hX⟩ : ∃ X, (if st.state = 4 ∧ isL c = true then failS 6 (closeS st).line (closeS st).col (closeS st) else st) = X := ⟨_, rfl⟩
    have hx : X.line = st.line ∧ X.col = st.col ∧ (closeS X).words.length ≤ st.words.length + 1 := by
     rw [← hX]
     obtain ⟨b1, b2, b3, b4, b5, b6⟩ := closeS_same st
     split
     ·obtain ⟨f1, f2, f3, f4, f5, f6⟩ := failS_words 6 (closeS st).line (closeS st).col (closeS st)
      refine ⟨by rw [f2, b1], by rw [f3, b2], ?_⟩
      rw [closeS_zero (by unfold failS; split <;> exact closeS_state st)]
      show (failS 6 (closeS st).line (closeS st).col (closeS st)).words.length ≤ _
      rw [f1]; exact b6
     ·exact ⟨rfl, rfl, b6⟩
    rw [hX]
    obtain ⟨a1, a2, a3, a4, a5, a6⟩ := beginS_same c (closeS X)
    obtain ⟨b1, b2, b3, b4, b5, b6⟩ := closeS_same X
    rw [b1, hx.1] at a1 a3
    rw [b2, hx.2.1] at a2 a4
    exact ⟨a1, a2, by omega, by omega, by omega, by omega, by rw [a5]; simp, by omega⟩
theorem Small.step {st : St} {k : Nat} (h : Small st k) (c : Int) : Small (overS c (takeS c st)) (k + 1) := by
 obtain ⟨a1, a2, a3, a4, a5, a6, a7, a8⟩ := takeS_small h c
 obtain ⟨h1, h2, h3, h4, h5, h6, h7, h8, h9, h10⟩ := h
 unfold overS
 split
 ·exact ⟨by show 0 ≤ (takeS c st).line + 1; omega, by show (takeS c st).line + 1 ≤ _; omega, by show (0 : Int) ≤ 1; omega, by show (1 : Int) ≤ _; omega, a3, by show (takeS c st).fl ≤ _; omega, a5, by show (takeS c st).fc ≤ _; omega, a7, by show (takeS c st).words.length ≤ _; omega⟩
 ·exact ⟨by show 0 ≤ (takeS c st).line; omega, by show (takeS c st).line ≤ _; omega, by show 0 ≤ (takeS c st).col + 1; omega, by show (takeS c st).col + 1 ≤ _; omega, a3, by show (takeS c st).fl ≤ _; omega, a5, by show (takeS c st).fc ≤ _; omega, a7, by show (takeS c st).words.length ≤ _; omega⟩
theorem RdAt.push_text {w w1 : World} {base R : Nat} {q : RdM} {st : St} {c : Int} {v t : Value} (h : RdAt w base R q st) (ht : q.tv = t) (hown : OwnL w1 base 21 (fun _ => False) v (rus st.text ++ [⟨c⟩])) (hg : (w.alloc (.cells #[.int .i32 c] 21)).grownBy w1 t.ownBlock)
  (hv : v.ownBlock = t.ownBlock ∨ v.ownBlock = some (w.heap.size + 1)) :
  RdAt (w1.setCell ⟨R, 5, none⟩ v) base R { q with tv := v } { st with text := st.text ++ [c] } ∧ RdFr q { q with tv := v } R w (w1.setCell ⟨R, 5, none⟩ v) ∧ w1.heap[R]? = some (.cells (rdCells q st) 175 (0, 0)) := by
 subst ht
 have ha := h.alloc (.cells #[.int .i32 c] 21)
 have hlt := h.lt
 have hlw : ∀ g, q.wv.ownBlock = some g → g < w.heap.size := fun g hg => (h.words.below_ g hg).2
 have hbl : w1.heap[R]? = some (.cells (rdCells q st) 175 (0, 0)) := (hg.block R (by simp; omega) (fun e => h.dt e.symm)).trans ha.blk
 refine ⟨ha.put_text hg (fun g e => e) (by rw [rus_snoc]; exact hown) (fun e => ?_) (fun g e e' => ?_), ?_, hbl⟩
 ·rcases hv with hv | hv
  ·exact h.dt (by rw [← hv]; exact e)
  ·rw [hv] at e; injection e with e; omega
 ·rcases hv with hv | hv
  ·exact h.dtw g (by rw [← hv]; exact e) e'
  ·rw [hv] at e; injection e with e; have := hlw g e'; omega
 ·have f1 : RdFr q q R w w1 := (RdFr.of_below (q := q) (R := R) ((Below.refl _ w).alloc (Nat.le_refl _) (.cells #[.int .i32 c] 21))).trans (RdFr.grown hg (fun b e => .inr (.inl e)))
  refine f1.swap 5 _ ?_
  rintro b (e | e | e)
  ·exact .inl (.inl e)
  ·change v.ownBlock = some b at e
   rcases hv with hv | hv
   ·exact .inl (.inr (.inl (by rw [← hv]; exact e)))
   ·rw [hv] at e; injection e with e; exact .inr (by omega)
  ·exact .inl (.inr (.inr e))
set_option maxRecDepth 100000 in
set_option maxHeartbeats 1000000 in
theorem take_any (w : World) (base R : Nat) (q : RdM) (st : St) (h : RdAt w base R q st) (hv : Vars w) (h7 : 6 ≤ base) (k : Nat) (hs : Small st k) (hk : k ≤ 68719476736) (c : Int) :
  Calls Tryz.prog 133 #[.pointer (some ⟨R, 0, none⟩), .int .i32 c] w (RdP base R q w (takeS c st)) := by
 have k2 := h.k2; have k5 := h.k5; have hlt := h.lt
 have f2 := h.fz 2; have f5 := h.fz 5
 obtain ⟨At, ct, ht⟩ := h.text.form
 rw [rus_len] at ht
 rw [ht] at k5
 obtain ⟨i0, hi, hz, hz1, hz2⟩ := info_parts info_int32
 have HI0 := hide hi; have HZ := hide hz; have HZ1 := hide hz1; have HZ2 := hide hz2
 clear hi hz hz1 hz2
 have HT := hide (show OwnL w base 21 (fun _ => False) (.slice At st.text.length ct) (rus st.text) by rw [← ht]; exact h.text)
 have HTL := hide (show (rus st.text).length ≤ 68719476736 by rw [rus_len]; have := hs.text; omega)
 have HQT := hide ht
 clear ht
 have hbR : base < w.heap.size := by have := h.hR; omega
 have HR := hide h; have HV := hide hv; have HS := hide hs; have HK := hide hk; have H7 := hide h7
 clear h hv hs hk h7
 generalize hn : st.text.length = n at k5 HT HQT
 have HNL := hide hn; clear hn
 by_cases h1 : st.state = 1
 ·rw [h1] at k2
  have H1 := hide h1; clear h1
  cases h10 : (c == 10)
  ·have HC := hide (show c ≠ 10 by simpa using h10)
   go_enter Tryz.func133, Tryz.ntmps133
   go_wp2_with fail
   first | go_end0 | refine bodyPost_ret (results_none rfl _ _ _) rfl ?_
   have e : takeS c st = st := by unfold takeS; rw [if_pos H1.out, if_neg HC.out]
   rw [e]
   exact RdP.same HR.out RdFr.refl
  ·have HC := hide (show c = 10 by simpa using h10)
   have HR0 := hide (show RdAt (w.setCell ⟨R, 2, none⟩ (.int .i64 0)) base R q { st with state := 0 } from HR.out.put_ rfl rfl rfl)
   have HS0 := hide (show Small { st with state := 0 } k from ⟨HS.out.1, HS.out.2, HS.out.3, HS.out.4, HS.out.5, HS.out.6, HS.out.7, HS.out.8, HS.out.9, HS.out.10⟩)
   go_enter Tryz.func133, Tryz.ntmps133
   go_wp2_with (first | (go_at_call 173; refine (begin_any (w.setCell ⟨R, 2, none⟩ (.int .i64 0)) base R q { st with state := 0 } HR0.out k HS0.out (by have := HK.out; omega) c).mono ?_; rintro e w9 ⟨rfl, q9, hR9, hF9⟩; have HR9 := hide hR9; have HF9 := hide hF9; clear hR9 hF9))
   first | go_end0 | refine bodyPost_ret (results_none rfl _ _ _) rfl ?_
   have e : takeS c st = beginS c { st with state := 0 } := by unfold takeS; rw [if_pos H1.out, if_pos HC.out]
   rw [e]
   exact ⟨rfl, q9, HR9.out, (RdFr.put 2 (.int .i64 0)).trans HF9.out⟩
 have b1 : (st.state == 1) = false := by simpa using h1
 have H1 := hide h1; clear h1
 by_cases hc2 : st.state = 2 ∧ isLD c = true
 ·obtain ⟨h2, hld⟩ := hc2
  rw [h2] at k2 b1
  have H2 := hide (And.intro h2 hld)
  clear h2
  have e : takeS c st = { st with text := st.text ++ [c] } := by unfold takeS; rw [if_neg H1.out, if_pos H2.out]
  rw [e]; clear e
  cases hL : isL c
  ·have hD : isD c = true := by rw [isLD_iff, hL] at hld; simpa using hld
   clear hld
   go_enter Tryz.func133, Tryz.ntmps133
   go_wp2_with (first | (go_at_call 174; (with_reducible refine (letter_any _ _).mono ?_); rintro e w' ⟨rfl, rfl⟩) | (go_at_call 175; (with_reducible refine (digit_any _ _).mono ?_); rintro e w' ⟨rfl, rfl⟩) | (at_builtin; refine wpList_push (α := Ru) w [.int .i32 c] 21 rfl (.tmp 31) (.tmp 33) 173 rfl base 21 i0 _ 4 Tryz.underlying173 HI0.out HZ.out HZ1.out HZ2.out rfl (by decide) (fun _ => False) (fun _ => False) (.slice At n ct) (rus st.text) ⟨c⟩ rfl HT.out _ rfl rfl rfl (fun _ h => h) (fun _ _ h => h) (fun _ h => h.elim) (by have := HTL.out; omega) (by have := HTL.out; omega) (by omega) ?_))
   intro v' w1 hown' hg hrow
   have HPT := hide (HR.out.push_text HQT.out hown' hg hrow)
   obtain ⟨Av, cv, rfl⟩ := hown'.form
   clear hown' hg hrow
   generalize (rus st.text ++ [(⟨c⟩ : Ru)]).length = nv at HPT ⊢
   have p5 : w1.cell? ⟨R, 5, none⟩ = some q.tv := cell_of_row w1 R _ _ _ (0, 0) HPT.out.2.2
   have p2 : w1.cell? ⟨R, 2, none⟩ = some (.int .i64 st.state) := cell_of_row w1 R _ _ _ (0, 0) HPT.out.2.2
   have pf5 : w1.frozen? ⟨R, 5, none⟩ = false := by simp [World.frozen?, HPT.out.2.2]
   have pf2 : w1.frozen? ⟨R, 2, none⟩ = false := by simp [World.frozen?, HPT.out.2.2]
   have plt : R < w1.heap.size := (Array.getElem?_eq_some_iff.1 HPT.out.2.2).1
   go_wp2_with fail
   first | go_end0 | refine bodyPost_ret (results_none rfl _ _ _) rfl ?_
   exact ⟨rfl, _, HPT.out.1, HPT.out.2.1⟩
  ·clear hld
   go_enter Tryz.func133, Tryz.ntmps133
   go_wp2_with (first | (go_at_call 174; (with_reducible refine (letter_any _ _).mono ?_); rintro e w' ⟨rfl, rfl⟩) | (go_at_call 175; (with_reducible refine (digit_any _ _).mono ?_); rintro e w' ⟨rfl, rfl⟩) | (at_builtin; refine wpList_push (α := Ru) w [.int .i32 c] 21 rfl (.tmp 31) (.tmp 33) 173 rfl base 21 i0 _ 4 Tryz.underlying173 HI0.out HZ.out HZ1.out HZ2.out rfl (by decide) (fun _ => False) (fun _ => False) (.slice At n ct) (rus st.text) ⟨c⟩ rfl HT.out _ rfl rfl rfl (fun _ h => h) (fun _ _ h => h) (fun _ h => h.elim) (by have := HTL.out; omega) (by have := HTL.out; omega) (by omega) ?_))
   intro v' w1 hown' hg hrow
   have HPT := hide (HR.out.push_text HQT.out hown' hg hrow)
   obtain ⟨Av, cv, rfl⟩ := hown'.form
   clear hown' hg hrow
   generalize (rus st.text ++ [(⟨c⟩ : Ru)]).length = nv at HPT ⊢
   have p5 : w1.cell? ⟨R, 5, none⟩ = some q.tv := cell_of_row w1 R _ _ _ (0, 0) HPT.out.2.2
   have p2 : w1.cell? ⟨R, 2, none⟩ = some (.int .i64 st.state) := cell_of_row w1 R _ _ _ (0, 0) HPT.out.2.2
   have pf5 : w1.frozen? ⟨R, 5, none⟩ = false := by simp [World.frozen?, HPT.out.2.2]
   have pf2 : w1.frozen? ⟨R, 2, none⟩ = false := by simp [World.frozen?, HPT.out.2.2]
   have plt : R < w1.heap.size := (Array.getElem?_eq_some_iff.1 HPT.out.2.2).1
   go_wp2_with fail
   first | go_end0 | refine bodyPost_ret (results_none rfl _ _ _) rfl ?_
   exact ⟨rfl, _, HPT.out.1, HPT.out.2.1⟩
 by_cases hc3 : (st.state = 3 ∨ st.state = 4) ∧ isD c = true
 ·have e : takeS c st = { st with text := st.text ++ [c], state := 4 } := by unfold takeS; rw [if_neg H1.out, if_neg hc2, if_pos hc3]
  rw [e]; clear e hc2
  obtain ⟨h34, hD⟩ := hc3
  rcases h34 with h3 | h3
  ·rw [h3] at k2 b1
   have H3 := hide h3; clear h3
   go_enter Tryz.func133, Tryz.ntmps133
   go_wp2_with (first | (go_at_call 174; (with_reducible refine (letter_any _ _).mono ?_); rintro e w' ⟨rfl, rfl⟩) | (go_at_call 175; (with_reducible refine (digit_any _ _).mono ?_); rintro e w' ⟨rfl, rfl⟩) | (at_builtin; refine wpList_push (α := Ru) w [.int .i32 c] 21 rfl (.tmp 47) (.tmp 49) 173 rfl base 21 i0 _ 4 Tryz.underlying173 HI0.out HZ.out HZ1.out HZ2.out rfl (by decide) (fun _ => False) (fun _ => False) (.slice At n ct) (rus st.text) ⟨c⟩ rfl HT.out _ rfl rfl rfl (fun _ h => h) (fun _ _ h => h) (fun _ h => h.elim) (by have := HTL.out; omega) (by have := HTL.out; omega) (by omega) ?_))
   intro v' w1 hown' hg hrow
   have HPT := hide (HR.out.push_text HQT.out hown' hg hrow)
   obtain ⟨Av, cv, rfl⟩ := hown'.form
   clear hown' hg hrow
   generalize (rus st.text ++ [(⟨c⟩ : Ru)]).length = nv at HPT ⊢
   have p5 : w1.cell? ⟨R, 5, none⟩ = some q.tv := cell_of_row w1 R _ _ _ (0, 0) HPT.out.2.2
   have p2 : w1.cell? ⟨R, 2, none⟩ = some (.int .i64 st.state) := cell_of_row w1 R _ _ _ (0, 0) HPT.out.2.2
   have pf5 : w1.frozen? ⟨R, 5, none⟩ = false := by simp [World.frozen?, HPT.out.2.2]
   have pf2 : w1.frozen? ⟨R, 2, none⟩ = false := by simp [World.frozen?, HPT.out.2.2]
   have plt : R < w1.heap.size := (Array.getElem?_eq_some_iff.1 HPT.out.2.2).1
   go_wp2_with fail
   first | go_end0 | refine bodyPost_ret (results_none rfl _ _ _) rfl ?_
   have a2 : RdAt ((w1.setCell ⟨R, 5, none⟩ (.slice Av nv cv)).setCell ⟨R, 2, none⟩ (.int .i64 4)) base R { q with tv := .slice Av nv cv } { st with text := st.text ++ [c], state := 4 } := HPT.out.1.put_ rfl rfl rfl
   exact ⟨rfl, _, a2, HPT.out.2.1.trans (RdFr.put _ _)⟩
  ·rw [h3] at k2 b1
   have H3 := hide h3; clear h3
   go_enter Tryz.func133, Tryz.ntmps133
   go_wp2_with (first | (go_at_call 174; (with_reducible refine (letter_any _ _).mono ?_); rintro e w' ⟨rfl, rfl⟩) | (go_at_call 175; (with_reducible refine (digit_any _ _).mono ?_); rintro e w' ⟨rfl, rfl⟩) | (at_builtin; refine wpList_push (α := Ru) w [.int .i32 c] 21 rfl (.tmp 47) (.tmp 49) 173 rfl base 21 i0 _ 4 Tryz.underlying173 HI0.out HZ.out HZ1.out HZ2.out rfl (by decide) (fun _ => False) (fun _ => False) (.slice At n ct) (rus st.text) ⟨c⟩ rfl HT.out _ rfl rfl rfl (fun _ h => h) (fun _ _ h => h) (fun _ h => h.elim) (by have := HTL.out; omega) (by have := HTL.out; omega) (by omega) ?_))
   intro v' w1 hown' hg hrow
   have HPT := hide (HR.out.push_text HQT.out hown' hg hrow)
   obtain ⟨Av, cv, rfl⟩ := hown'.form
   clear hown' hg hrow
   generalize (rus st.text ++ [(⟨c⟩ : Ru)]).length = nv at HPT ⊢
   have p5 : w1.cell? ⟨R, 5, none⟩ = some q.tv := cell_of_row w1 R _ _ _ (0, 0) HPT.out.2.2
   have p2 : w1.cell? ⟨R, 2, none⟩ = some (.int .i64 st.state) := cell_of_row w1 R _ _ _ (0, 0) HPT.out.2.2
   have pf5 : w1.frozen? ⟨R, 5, none⟩ = false := by simp [World.frozen?, HPT.out.2.2]
   have pf2 : w1.frozen? ⟨R, 2, none⟩ = false := by simp [World.frozen?, HPT.out.2.2]
   have plt : R < w1.heap.size := (Array.getElem?_eq_some_iff.1 HPT.out.2.2).1
   go_wp2_with fail
   first | go_end0 | refine bodyPost_ret (results_none rfl _ _ _) rfl ?_
   have a2 : RdAt ((w1.setCell ⟨R, 5, none⟩ (.slice Av nv cv)).setCell ⟨R, 2, none⟩ (.int .i64 4)) base R { q with tv := .slice Av nv cv } { st with text := st.text ++ [c], state := 4 } := HPT.out.1.put_ rfl rfl rfl
   exact ⟨rfl, _, a2, HPT.out.2.1.trans (RdFr.put _ _)⟩
 have hclose := fun (W : World) (q' : RdM) (x : St) (hx : RdAt W base R q' x) (hV : Vars W) (m : Nat) (hS : Small x m) (hm : m ≤ 68719476740) => close_any W base R q' x hx hV m hS (by omega)
 have HCL := hide hclose; clear hclose
 by_cases h4L : st.state = 4 ∧ isL c = true
 ·have e : takeS c st = beginS c (closeS (failS 6 (closeS st).line (closeS st).col (closeS st))) := by unfold takeS; rw [if_neg H1.out, if_neg hc2, if_neg hc3, if_pos h4L]
  rw [e]; clear e hc2
  obtain ⟨h4, hL⟩ := h4L
  have hD : isD c = false := by cases h : isD c; rfl; exact absurd (isD_L h) (by rw [hL]; decide)
  rw [h4] at k2 b1
  have H4 := hide h4; clear h4 hc3
  go_enter Tryz.func133, Tryz.ntmps133
  go_wp2_with (first | (go_at_call 174; (with_reducible refine (letter_any _ _).mono ?_); rintro e w' ⟨rfl, rfl⟩) | (go_at_call 175; (with_reducible refine (digit_any _ _).mono ?_); rintro e w' ⟨rfl, rfl⟩) | (go_at_call 131; refine (HCL.out w q st HR.out HV.out k HS.out (by have := HK.out; omega)).mono ?_; rintro e w2 ⟨rfl, q2, hR2, hF2⟩; have HR2 := hide hR2; have HF2 := hide hF2; have y0 := hR2.k0; have y1 := hR2.k1; have lt2 := hR2.lt; have HV2 := hide (HV.out.below (hF2.below HR.out) H7.out); clear hR2 hF2))
  have HF := hide (fail_any w2 base R q2 (closeS st) HR2.out 6 (closeS st).line (closeS st).col)
  go_wp2_with (first | (go_at_call 132; refine HF.out.mono ?_; rintro e w3 ⟨rfl, q3, hR3, hF3⟩; have HR3 := hide hR3; have HF3 := hide hF3; have HV3 := hide (HV2.out.below (hF3.below HR2.out) H7.out); clear hR3 hF3))
  have HC4 := hide (HCL.out w3 q3 _ HR3.out HV3.out (k + 1) (HS.out.closeS.failS 6 (closeS st).line (closeS st).col) (by have := HK.out; omega))
  go_wp2_with (first | (go_at_call 131; refine HC4.out.mono ?_; rintro e w4 ⟨rfl, q4, hR4, hF4⟩; have HR4 := hide hR4; have HF4 := hide hF4; clear hR4 hF4))
  have HB5 := hide (begin_any w4 base R q4 _ HR4.out (k + 2) ((HS.out.closeS.failS 6 (closeS st).line (closeS st).col).closeS) (by have := HK.out; omega) c)
  go_wp2_with (first | (go_at_call 173; refine HB5.out.mono ?_; rintro e w9 ⟨rfl, q9, hR9, hF9⟩; have HR9 := hide hR9; have HF9 := hide hF9; clear hR9 hF9))
  first | go_end0 | refine bodyPost_ret (results_none rfl _ _ _) rfl ?_
  exact ⟨rfl, q9, HR9.out, (((HF2.out.trans HF3.out).trans HF4.out).trans HF9.out)⟩
 have e : takeS c st = beginS c (closeS st) := by unfold takeS; rw [if_neg H1.out, if_neg hc2, if_neg hc3, if_neg h4L]
 rw [e]; clear e
 by_cases h2 : st.state = 2
 ·have hL : isL c = false := by cases h : isL c; rfl; exact absurd ⟨h2, by rw [isLD_iff]; exact .inl h⟩ hc2
  have hD : isD c = false := by cases h : isD c; rfl; exact absurd ⟨h2, by rw [isLD_iff]; exact .inr h⟩ hc2
  rw [h2] at k2 b1
  have H2 := hide h2; clear h2 hc2 hc3 h4L
  go_enter Tryz.func133, Tryz.ntmps133
  go_wp2_with (first | (go_at_call 174; (with_reducible refine (letter_any _ _).mono ?_); rintro e w' ⟨rfl, rfl⟩) | (go_at_call 175; (with_reducible refine (digit_any _ _).mono ?_); rintro e w' ⟨rfl, rfl⟩) | (go_at_call 131; refine (HCL.out w q st HR.out HV.out k HS.out (by have := HK.out; omega)).mono ?_; rintro e w2 ⟨rfl, q2, hR2, hF2⟩; have HR2 := hide hR2; have HF2 := hide hF2; have y0 := hR2.k0; have y1 := hR2.k1; have lt2 := hR2.lt; have HV2 := hide (HV.out.below (hF2.below HR.out) H7.out); clear hR2 hF2))
  have HB5 := hide (begin_any w2 base R q2 _ HR2.out (k + 1) HS.out.closeS (by have := HK.out; omega) c)
  go_wp2_with (first | (go_at_call 173; refine HB5.out.mono ?_; rintro e w9 ⟨rfl, q9, hR9, hF9⟩; have HR9 := hide hR9; have HF9 := hide hF9; clear hR9 hF9))
  first | go_end0 | refine bodyPost_ret (results_none rfl _ _ _) rfl ?_
  exact ⟨rfl, q9, HR9.out, (HF2.out.trans HF9.out)⟩
 have b2 : (st.state == 2) = false := by simpa using h2
 by_cases h3 : st.state = 3
 ·have hD : isD c = false := by cases h : isD c; rfl; exact absurd ⟨.inl h3, h⟩ hc3
  rw [h3] at k2 b1 b2
  have H3 := hide h3; clear h2 h3 hc2 hc3 h4L
  go_enter Tryz.func133, Tryz.ntmps133
  go_wp2_with (first | (go_at_call 174; (with_reducible refine (letter_any _ _).mono ?_); rintro e w' ⟨rfl, rfl⟩) | (go_at_call 175; (with_reducible refine (digit_any _ _).mono ?_); rintro e w' ⟨rfl, rfl⟩) | (go_at_call 131; refine (HCL.out w q st HR.out HV.out k HS.out (by have := HK.out; omega)).mono ?_; rintro e w2 ⟨rfl, q2, hR2, hF2⟩; have HR2 := hide hR2; have HF2 := hide hF2; have y0 := hR2.k0; have y1 := hR2.k1; have lt2 := hR2.lt; have HV2 := hide (HV.out.below (hF2.below HR.out) H7.out); clear hR2 hF2))
  have HB5 := hide (begin_any w2 base R q2 _ HR2.out (k + 1) HS.out.closeS (by have := HK.out; omega) c)
  go_wp2_with (first | (go_at_call 173; refine HB5.out.mono ?_; rintro e w9 ⟨rfl, q9, hR9, hF9⟩; have HR9 := hide hR9; have HF9 := hide hF9; clear hR9 hF9))
  first | go_end0 | refine bodyPost_ret (results_none rfl _ _ _) rfl ?_
  exact ⟨rfl, q9, HR9.out, (HF2.out.trans HF9.out)⟩
 have b3 : (st.state == 3) = false := by simpa using h3
 by_cases h4 : st.state = 4
 ·have hD : isD c = false := by cases h : isD c; rfl; exact absurd ⟨.inr h4, h⟩ hc3
  have hL : isL c = false := by cases h : isL c; rfl; exact absurd ⟨h4, h⟩ h4L
  rw [h4] at k2 b1 b2 b3
  have H4 := hide h4; clear h2 h3 h4 hc2 hc3 h4L
  go_enter Tryz.func133, Tryz.ntmps133
  go_wp2_with (first | (go_at_call 174; (with_reducible refine (letter_any _ _).mono ?_); rintro e w' ⟨rfl, rfl⟩) | (go_at_call 175; (with_reducible refine (digit_any _ _).mono ?_); rintro e w' ⟨rfl, rfl⟩) | (go_at_call 131; refine (HCL.out w q st HR.out HV.out k HS.out (by have := HK.out; omega)).mono ?_; rintro e w2 ⟨rfl, q2, hR2, hF2⟩; have HR2 := hide hR2; have HF2 := hide hF2; have y0 := hR2.k0; have y1 := hR2.k1; have lt2 := hR2.lt; have HV2 := hide (HV.out.below (hF2.below HR.out) H7.out); clear hR2 hF2))
  have HB5 := hide (begin_any w2 base R q2 _ HR2.out (k + 1) HS.out.closeS (by have := HK.out; omega) c)
  go_wp2_with (first | (go_at_call 173; refine HB5.out.mono ?_; rintro e w9 ⟨rfl, q9, hR9, hF9⟩; have HR9 := hide hR9; have HF9 := hide hF9; clear hR9 hF9))
  first | go_end0 | refine bodyPost_ret (results_none rfl _ _ _) rfl ?_
  exact ⟨rfl, q9, HR9.out, (HF2.out.trans HF9.out)⟩
 have b4 : (st.state == 4) = false := by simpa using h4
 clear h2 h3 h4 hc2 hc3 h4L
 go_enter Tryz.func133, Tryz.ntmps133
 go_wp2_with (first | (go_at_call 174; (with_reducible refine (letter_any _ _).mono ?_); rintro e w' ⟨rfl, rfl⟩) | (go_at_call 175; (with_reducible refine (digit_any _ _).mono ?_); rintro e w' ⟨rfl, rfl⟩) | (go_at_call 131; refine (HCL.out w q st HR.out HV.out k HS.out (by have := HK.out; omega)).mono ?_; rintro e w2 ⟨rfl, q2, hR2, hF2⟩; have HR2 := hide hR2; have HF2 := hide hF2; have y0 := hR2.k0; have y1 := hR2.k1; have lt2 := hR2.lt; have HV2 := hide (HV.out.below (hF2.below HR.out) H7.out); clear hR2 hF2))
 have HB5 := hide (begin_any w2 base R q2 _ HR2.out (k + 1) HS.out.closeS (by have := HK.out; omega) c)
 go_wp2_with (first | (go_at_call 173; refine HB5.out.mono ?_; rintro e w9 ⟨rfl, q9, hR9, hF9⟩; have HR9 := hide hR9; have HF9 := hide hF9; clear hR9 hF9))
 first | go_end0 | refine bodyPost_ret (results_none rfl _ _ _) rfl ?_
 exact ⟨rfl, q9, HR9.out, (HF2.out.trans HF9.out)⟩
end Go.Proofs.YtljglhaeonbfoaaGreatDoor
namespace Go.Proofs.YtljglhaeonbfoaaGreatDoor
open Go.RowKit
theorem results_tmp4 {fn : Func} {t u v x : Tmp} (h : fn.results = #[.tmp t, .tmp u, .tmp v, .tmp x]) (tmps : Array Value) (P : Program) (w : World) :
  (results fn tmps).run P w = .ok (.tuple #[tmps.getD t undef, tmps.getD u undef, tmps.getD v undef, tmps.getD x undef]) w := by
 simp [results, h]
def RetRd (w : World) (r : ReadR) (e : Ending) (w' : World) : Prop := ∃ A n c, e = .returned (.tuple #[.slice A n c, .int .i64 r.line, .int .i64 r.col, .int .i64 r.err]) ∧ Sl w' (fun b => w.heap.size ≤ b) A n c r.words ∧ ∃ u : Ext, w' = w.ext u
theorem RdAt.iterAt {w : World} {base R : Nat} {q : RdM} {st : St} (h : RdAt w base R q st) {k : Nat} {s : ByteArray} {pos : Nat} (hk : w.heap[k]? = some (.stringIter s pos)) (pos' : Nat) : RdAt (w.iterAt k s pos') base R q st :=
 h.keepB (by rw [Lib.iterAt_size]; exact Nat.le_refl _) fun b _ hb => by
  refine Lib.iterAt_other _ _ _ _ _ ?_
  rintro rfl
  obtain ⟨_, c, t, f, h2⟩ := h.mine_cells hb
  rw [hk] at h2; cases h2
set_option maxRecDepth 100000 in
set_option maxHeartbeats 40000000 in
theorem read_any (s : ByteArray) (w : World) (hs : s.size ≤ 34359738368) (hv : Vars w) : Calls Tryz.prog 83 #[.string s] w (RetRd w (resS (runS (items s 0) st0))) := by
 have HV := hide hv; have HZ := hide hs
 have H7 := hide hv.sz
 clear hv hs
 obtain ⟨R0, hR0⟩ : ∃ R0, resS (runS (items s 0) st0) = R0 := ⟨_, rfl⟩
 rw [hR0]
 have HR0 := hide hR0; clear hR0
 go_enter Tryz.func83, Tryz.ntmps83
 go_wp2_with fail
 go_loopw [] (fun wr => ∃ (pos k : Nat) (st : St) (q : RdM), RdAt wr w.heap.size w.heap.size q st ∧ wr.heap[w.heap.size + 1]? = some (.stringIter s pos) ∧ Below w.heap.size w wr ∧ resS (runS (items s pos) st) = R0 ∧ Small st k ∧ k ≤ pos + 1 ∧ pos ≤ s.size) (fun wr => s.size - wr.iterPos (w.heap.size + 1))
 case atStart =>
  refine ⟨0, 1, st0, ⟨.slice none 0 0, .slice none 0 0⟩, ?_, ?_, ((Below.refl _ w).alloc (Nat.le_refl _) _).alloc (by simp) _, HR0.out, ⟨by decide, by decide, by decide, by decide, by decide, by decide, by decide, by decide, by decide, by decide⟩, by omega, by omega⟩
  ·refine RdAt.alloc ?_ _
   exact ⟨Nat.le_refl _, heap_alloc_new w _, OwnL.nil_ _ _ _ _, OwnL.nil_ _ _ _ _, fun e => by simp [Value.ownBlock] at e, fun e => by simp [Value.ownBlock] at e, fun g e => by simp [Value.ownBlock] at e⟩
  ·have := World.iter_heap (w.alloc (.cells #[.int .i64 1, .int .i64 1, .int .i64 0, .int .i64 0, .int .i64 0, .slice none 0 0, .bool false, .slice none 0 0, .int .i64 0, .int .i64 0, .int .i64 0] 175)) s 0
   simpa using this
 case round =>
  obtain ⟨pos, k, st, q, hR, hit, hbw, hrun, hsm, hk, hps⟩ := hrel
  have HR := hide hR; have HB := hide hbw; have HRUN := hide hrun; have HSM := hide hsm; have HKP := hide hk; have HPS := hide hps
  have HVR := hide (HV.out.below hbw H7.out)
  clear hR hbw hrun hsm hk
  have hsz : w.heap.size + 1 < wr.heap.size := (Array.getElem?_eq_some_iff.1 hit).1
  have HK68 := hide (show k ≤ 68719476736 by have := HKP.out; have := HPS.out; have := HZ.out; omega)
  by_cases hp : pos < s.size
  ·have hnx : ∀ ty, (Instr.next (.pointer (some ⟨w.heap.size + 1, 0, none⟩)) true ty).run Tryz.prog wr = _ := fun ty => Lib.run_next_any_at wr (w.heap.size + 1) s pos ty hit hp
   obtain ⟨W1, hW1⟩ : ∃ W1, wr.iterAt (w.heap.size + 1) s (pos + (Utf8.decode s pos).2) = W1 := ⟨_, rfl⟩
   have HR1 := hide (show RdAt W1 w.heap.size w.heap.size q st by rw [← hW1]; exact HR.out.iterAt hit _)
   have HI1 := hide (show W1.heap[w.heap.size + 1]? = some (.stringIter s (pos + (Utf8.decode s pos).2)) by rw [← hW1]; exact Lib.iterAt_heap wr (w.heap.size + 1) s pos _ hit)
   have HB1 := hide (show Below w.heap.size w W1 by rw [← hW1]; exact Lib.below_iterAt HB.out (k := w.heap.size + 1) (by omega) s _)
   have HV1 := hide (HV.out.below HB1.out H7.out)
   have HWD := hide (Lib.decode_width_pos s pos hp)
   have HWL := hide (width_le hp)
   have HG1 := hide (items_good hp); have HG0 := hide (items_bad hp)
   have HGN := hide (@good_not s pos); have HGF := hide (fun h => good_ff hp h)
   rw [hW1] at hnx
   clear hW1
   generalize hr : (Utf8.decode s pos).1 = r at hnx HG1 HGN HGF
   generalize hwd : (Utf8.decode s pos).2 = wd at HI1 HWD HWL HG1
   clear hr hwd
   have hlt1 := HR1.out.lt; have k0 := HR1.out.k0; have k1 := HR1.out.k1; have k8 := HR1.out.k8
   have hsl0 : 0 ≤ pos := Nat.zero_le _
   have good : goodAt s pos = true → True := fun _ => trivial
   clear good
   obtain ⟨g, hg⟩ : ∃ g, goodAt s pos = g := ⟨_, rfl⟩
   rw [hg] at HG1 HG0 HGN HGF
   have HGG := hide hg; clear hg
   cases hff : ((r : Int) == 65533)
   ·have hgt : g = true := HGN.out (by intro h; rw [h] at hff; exact absurd hff (by decide))
    subst hgt
    have HIT := hide (HG1.out rfl)
    by_cases hwz : st.wrong = 0
    ·have HWZ := hide hwz
     rw [hwz] at k8
     clear hwz
     have HTK := hide (take_any W1 w.heap.size w.heap.size q st HR1.out HV1.out H7.out k HSM.out HK68.out (r : Int))
     go_wp2_with (first | fail | (go_at_call 133; refine HTK.out.mono ?_; rintro e w2 ⟨rfl, q2, hR2, hF2⟩; have HR2 := hide hR2; have HF2 := hide hF2; have lt2 := hR2.lt; clear hR2 hF2))
     have hts := takeS_small HSM.out (r : Int)
     have HOV := hide (over_any w2 w.heap.size w.heap.size q2 _ HR2.out (r : Int) (by rw [hts.1]; exact HSM.out.l0) (by rw [hts.1]; have := HSM.out.l1; have := HK68.out; omega) (by rw [hts.2.1]; exact HSM.out.c0) (by rw [hts.2.1]; have := HSM.out.c1; have := HK68.out; omega))
     clear hts
     go_wp2_with (go_at_call 134; refine HOV.out.mono ?_; rintro e w3 ⟨rfl, q3, hR3, hF3⟩; have HR3 := hide hR3; have HF3 := hide hF3; clear hR3 hF3)
     have HIT3 := hide (HF3.out.other HR2.out (HF2.out.other HR1.out HI1.out (fun _ _ _ h => by cases h)) (fun _ _ _ h => by cases h))
     go_roundw
     case rel =>
      refine ⟨pos + wd, k + 1, _, q3, HR3.out, HIT3.out, (HB1.out.trans (HF2.out.below HR1.out)).trans (HF3.out.below HR2.out), ?_, HSM.out.step _, by have := HKP.out; have := HWD.out; omega, HWL.out⟩
      rw [← HRUN.out, HIT.out, runS_cons, if_neg (show ¬ ((r : Int) < 0) by omega), if_neg (by simp [HWZ.out])]
     case measure =>
      simp only [World.iterPos, HIT3.out, hit]
      have := HWD.out; omega
    ·have hw1' : (st.wrong != 0) = true := by simpa [bne] using hwz
     have hw2' : (st.wrong == 0) = false := by simpa using hwz
     have HWZ := hide hwz
     clear hwz
     go_wp2_with (first | fail)
     have HC := hide (close_any W1 w.heap.size w.heap.size q st HR1.out HV1.out (k) HSM.out (by have := HK68.out; omega))
     have HXX := hide (show resS (closeS st) = R0 from by rw [← HRUN.out, HIT.out, runS_cons, if_neg (show ¬ ((r : Int) < 0) by omega), if_pos HWZ.out])
     have HBB := hide (show Below w.heap.size w W1 from HB1.out)
     have HRR := hide (show RdAt W1 w.heap.size w.heap.size q st from HR1.out)
     obtain ⟨Y, hY⟩ : ∃ Y, closeS st = Y := ⟨_, rfl⟩
     rw [hY] at HC HXX
     clear hY
     by_cases hw : Y.wrong = 0
     ·have HW := hide hw; clear hw
      go_wp2_with (first | (go_at_call 131; refine HC.out.mono ?_; rintro e w5 ⟨rfl, q5, hR5, hF5⟩; have HR5 := hide hR5; have HB5 := hide (HBB.out.trans (hF5.below HRR.out)); have hlt5 := hR5.lt; have y8 := hR5.k8; have y9 := hR5.k9; have y10 := hR5.k10; obtain ⟨Aw, cw, hwv⟩ := hR5.words.form; have y7 := hR5.k7; rw [hwv] at y7; have HO5 := hide hR5.words; rw [hwv] at HO5; clear hR5 hF5 hwv; rw [HW.out] at y8))
      refine bodyPost_ret (results_tmp4 rfl _ _ _) rfl ?_
      have e : R0 = ⟨Y.words, 0, 0, 0⟩ := by rw [← HXX.out]; unfold resS; rw [if_neg (by simp [HW.out])]
      rw [e]
      exact ⟨Aw, _, cw, rfl, HO5.out.sl (fun b _ h => by rcases h with h | h; exact h.elim; exact h), HB5.out.to_ext⟩
     ·have HW := hide hw
      have hw1 : (Y.wrong != 0) = true := by simpa [bne] using hw
      have hw2 : (Y.wrong == 0) = false := by simpa using hw
      clear hw
      go_wp2_with (first | (go_at_call 131; refine HC.out.mono ?_; rintro e w5 ⟨rfl, q5, hR5, hF5⟩; have HR5 := hide hR5; have HB5 := hide (HBB.out.trans (hF5.below HRR.out)); have hlt5 := hR5.lt; have y8 := hR5.k8; have y9 := hR5.k9; have y10 := hR5.k10; obtain ⟨Aw, cw, hwv⟩ := hR5.words.form; have y7 := hR5.k7; rw [hwv] at y7; have HO5 := hide hR5.words; rw [hwv] at HO5; clear hR5 hF5 hwv))
      refine wp_region_ext (by kernel_rfl) (by kernel_rfl) ?_
      repeat (any_goals (first | go_big_quiet_step ((fail)) | quiet_step ((fail))))
      refine wpQuiet_nil ?_
      rintro _ ⟨uq, rfl⟩
      go_wp2_with fail
      refine bodyPost_ret (results_tmp4 rfl _ _ _) rfl ?_
      have e : R0 = errR Y.al Y.ac Y.wrong := by rw [← HXX.out]; exact res_wrong HW.out
      rw [e]
      exact ⟨none, 0, 0, rfl, Sl.nil, (HB5.out.ext HB5.out.size _).to_ext⟩
   ·have HE := hide (HGF.out (by simp only [beq_iff_eq] at hff; omega))
    have HHP := hide (show ∀ W, Calls Tryz.prog 130 #[.string (s.extract pos s.size), .string ⟨#[239, 191, 189]⟩] W (Ret (.bool g) W) from fun W => (Tryz.strings_HasPrefix _ _ W).mono (fun e w' ⟨a, b⟩ => ⟨by rw [a, HE.out], b.symm⟩))
    clear HE
    cases g
    ·-- a byte that opens none
     have HIT := hide (HG0.out rfl)
     have HCB := hide (close_any W1 w.heap.size w.heap.size q st HR1.out HV1.out k HSM.out (by have := HK68.out; omega))
     go_wp2_with (first | (go_at_call 130; (refine (HHP.out _).mono ?_); rintro e w' ⟨rfl, rfl⟩) | (go_at_call 131; refine HCB.out.mono ?_; rintro e w2 ⟨rfl, q2, hR2, hF2⟩; have HR2 := hide hR2; have HF2 := hide hF2; have y0 := hR2.k0; have y1 := hR2.k1; have lt2 := hR2.lt; clear hR2 hF2))
     have HFL := hide (fail_any w2 w.heap.size w.heap.size q2 (closeS st) HR2.out 6 (closeS st).line (closeS st).col)
     have hnw : (failS 6 (closeS st).line (closeS st).col (closeS st)).wrong ≠ 0 := by unfold failS; split; simp; assumption
     have hw1' : ((failS 6 (closeS st).line (closeS st).col (closeS st)).wrong != 0) = true := by simpa [bne] using hnw
     have hw2' : ((failS 6 (closeS st).line (closeS st).col (closeS st)).wrong == 0) = false := by simpa using hnw
     clear hnw
     have HSM2 := hide (HSM.out.closeS.failS 6 (closeS st).line (closeS st).col)
     have HFIN := hide (show resS (closeS (failS 6 (closeS st).line (closeS st).col (closeS st))) = R0 by rw [← HRUN.out, HIT.out, runS_cons, if_pos (by decide)])
     obtain ⟨X, hX⟩ : ∃ X, failS 6 (closeS st).line (closeS st).col (closeS st) = X := ⟨_, rfl⟩
     rw [hX] at HFL hw1' hw2' HSM2 HFIN
     clear hX
     go_wp2_with (go_at_call 132; refine HFL.out.mono ?_; rintro e w3 ⟨rfl, q3, hR3, hF3⟩; have HR3 := hide hR3; have HF3 := hide hF3; have lt3 := hR3.lt; have z8 := hR3.k8; clear hR3 hF3)
     have HB3 := hide ((HB1.out.trans (HF2.out.below HR1.out)).trans (HF3.out.below HR2.out))
     have HC := hide (close_any w3 w.heap.size w.heap.size q3 X HR3.out (HV.out.below HB3.out H7.out) (k + 1) HSM2.out (by have := HK68.out; omega))
     have HXX := hide (show resS (closeS X) = R0 from HFIN.out)
     have HBB := hide (show Below w.heap.size w w3 from HB3.out)
     have HRR := hide (show RdAt w3 w.heap.size w.heap.size q3 X from HR3.out)
     obtain ⟨Y, hY⟩ : ∃ Y, closeS X = Y := ⟨_, rfl⟩
     rw [hY] at HC HXX
     clear hY
     by_cases hw : Y.wrong = 0
     ·have HW := hide hw; clear hw
      go_wp2_with (first | (go_at_call 131; refine HC.out.mono ?_; rintro e w5 ⟨rfl, q5, hR5, hF5⟩; have HR5 := hide hR5; have HB5 := hide (HBB.out.trans (hF5.below HRR.out)); have hlt5 := hR5.lt; have y8 := hR5.k8; have y9 := hR5.k9; have y10 := hR5.k10; obtain ⟨Aw, cw, hwv⟩ := hR5.words.form; have y7 := hR5.k7; rw [hwv] at y7; have HO5 := hide hR5.words; rw [hwv] at HO5; clear hR5 hF5 hwv; rw [HW.out] at y8))
      refine bodyPost_ret (results_tmp4 rfl _ _ _) rfl ?_
      have e : R0 = ⟨Y.words, 0, 0, 0⟩ := by rw [← HXX.out]; unfold resS; rw [if_neg (by simp [HW.out])]
      rw [e]
      exact ⟨Aw, _, cw, rfl, HO5.out.sl (fun b _ h => by rcases h with h | h; exact h.elim; exact h), HB5.out.to_ext⟩
     ·have HW := hide hw
      have hw1 : (Y.wrong != 0) = true := by simpa [bne] using hw
      have hw2 : (Y.wrong == 0) = false := by simpa using hw
      clear hw
      go_wp2_with (first | (go_at_call 131; refine HC.out.mono ?_; rintro e w5 ⟨rfl, q5, hR5, hF5⟩; have HR5 := hide hR5; have HB5 := hide (HBB.out.trans (hF5.below HRR.out)); have hlt5 := hR5.lt; have y8 := hR5.k8; have y9 := hR5.k9; have y10 := hR5.k10; obtain ⟨Aw, cw, hwv⟩ := hR5.words.form; have y7 := hR5.k7; rw [hwv] at y7; have HO5 := hide hR5.words; rw [hwv] at HO5; clear hR5 hF5 hwv))
      refine wp_region_ext (by kernel_rfl) (by kernel_rfl) ?_
      repeat (any_goals (first | go_big_quiet_step ((fail)) | quiet_step ((fail))))
      refine wpQuiet_nil ?_
      rintro _ ⟨uq, rfl⟩
      go_wp2_with fail
      refine bodyPost_ret (results_tmp4 rfl _ _ _) rfl ?_
      have e : R0 = errR Y.al Y.ac Y.wrong := by rw [← HXX.out]; exact res_wrong HW.out
      rw [e]
      exact ⟨none, 0, 0, rfl, Sl.nil, (HB5.out.ext HB5.out.size _).to_ext⟩
    ·-- U+FFFD itself
     have HIT := hide (HG1.out rfl)
     by_cases hwz : st.wrong = 0
     ·have HWZ := hide hwz
      rw [hwz] at k8
      clear hwz
      have HTK := hide (take_any W1 w.heap.size w.heap.size q st HR1.out HV1.out H7.out k HSM.out HK68.out (r : Int))
      go_wp2_with (first | (go_at_call 130; (refine (HHP.out _).mono ?_); rintro e w' ⟨rfl, rfl⟩) | (go_at_call 133; refine HTK.out.mono ?_; rintro e w2 ⟨rfl, q2, hR2, hF2⟩; have HR2 := hide hR2; have HF2 := hide hF2; have lt2 := hR2.lt; clear hR2 hF2))
      have hts := takeS_small HSM.out (r : Int)
      have HOV := hide (over_any w2 w.heap.size w.heap.size q2 _ HR2.out (r : Int) (by rw [hts.1]; exact HSM.out.l0) (by rw [hts.1]; have := HSM.out.l1; have := HK68.out; omega) (by rw [hts.2.1]; exact HSM.out.c0) (by rw [hts.2.1]; have := HSM.out.c1; have := HK68.out; omega))
      clear hts
      go_wp2_with (go_at_call 134; refine HOV.out.mono ?_; rintro e w3 ⟨rfl, q3, hR3, hF3⟩; have HR3 := hide hR3; have HF3 := hide hF3; clear hR3 hF3)
      have HIT3 := hide (HF3.out.other HR2.out (HF2.out.other HR1.out HI1.out (fun _ _ _ h => by cases h)) (fun _ _ _ h => by cases h))
      go_roundw
      case rel =>
       refine ⟨pos + wd, k + 1, _, q3, HR3.out, HIT3.out, (HB1.out.trans (HF2.out.below HR1.out)).trans (HF3.out.below HR2.out), ?_, HSM.out.step _, by have := HKP.out; have := HWD.out; omega, HWL.out⟩
       rw [← HRUN.out, HIT.out, runS_cons, if_neg (show ¬ ((r : Int) < 0) by omega), if_neg (by simp [HWZ.out])]
      case measure =>
       simp only [World.iterPos, HIT3.out, hit]
       have := HWD.out; omega
     ·have hw1' : (st.wrong != 0) = true := by simpa [bne] using hwz
      have hw2' : (st.wrong == 0) = false := by simpa using hwz
      have HWZ := hide hwz
      clear hwz
      go_wp2_with (first | (go_at_call 130; (refine (HHP.out _).mono ?_); rintro e w' ⟨rfl, rfl⟩))
      have HC := hide (close_any W1 w.heap.size w.heap.size q st HR1.out HV1.out (k) HSM.out (by have := HK68.out; omega))
      have HXX := hide (show resS (closeS st) = R0 from by rw [← HRUN.out, HIT.out, runS_cons, if_neg (show ¬ ((r : Int) < 0) by omega), if_pos HWZ.out])
      have HBB := hide (show Below w.heap.size w W1 from HB1.out)
      have HRR := hide (show RdAt W1 w.heap.size w.heap.size q st from HR1.out)
      obtain ⟨Y, hY⟩ : ∃ Y, closeS st = Y := ⟨_, rfl⟩
      rw [hY] at HC HXX
      clear hY
      by_cases hw : Y.wrong = 0
      ·have HW := hide hw; clear hw
       go_wp2_with (first | (go_at_call 131; refine HC.out.mono ?_; rintro e w5 ⟨rfl, q5, hR5, hF5⟩; have HR5 := hide hR5; have HB5 := hide (HBB.out.trans (hF5.below HRR.out)); have hlt5 := hR5.lt; have y8 := hR5.k8; have y9 := hR5.k9; have y10 := hR5.k10; obtain ⟨Aw, cw, hwv⟩ := hR5.words.form; have y7 := hR5.k7; rw [hwv] at y7; have HO5 := hide hR5.words; rw [hwv] at HO5; clear hR5 hF5 hwv; rw [HW.out] at y8))
       refine bodyPost_ret (results_tmp4 rfl _ _ _) rfl ?_
       have e : R0 = ⟨Y.words, 0, 0, 0⟩ := by rw [← HXX.out]; unfold resS; rw [if_neg (by simp [HW.out])]
       rw [e]
       exact ⟨Aw, _, cw, rfl, HO5.out.sl (fun b _ h => by rcases h with h | h; exact h.elim; exact h), HB5.out.to_ext⟩
      ·have HW := hide hw
       have hw1 : (Y.wrong != 0) = true := by simpa [bne] using hw
       have hw2 : (Y.wrong == 0) = false := by simpa using hw
       clear hw
       go_wp2_with (first | (go_at_call 131; refine HC.out.mono ?_; rintro e w5 ⟨rfl, q5, hR5, hF5⟩; have HR5 := hide hR5; have HB5 := hide (HBB.out.trans (hF5.below HRR.out)); have hlt5 := hR5.lt; have y8 := hR5.k8; have y9 := hR5.k9; have y10 := hR5.k10; obtain ⟨Aw, cw, hwv⟩ := hR5.words.form; have y7 := hR5.k7; rw [hwv] at y7; have HO5 := hide hR5.words; rw [hwv] at HO5; clear hR5 hF5 hwv))
       refine wp_region_ext (by kernel_rfl) (by kernel_rfl) ?_
       repeat (any_goals (first | go_big_quiet_step ((fail)) | quiet_step ((fail))))
       refine wpQuiet_nil ?_
       rintro _ ⟨uq, rfl⟩
       go_wp2_with fail
       refine bodyPost_ret (results_tmp4 rfl _ _ _) rfl ?_
       have e : R0 = errR Y.al Y.ac Y.wrong := by rw [← HXX.out]; exact res_wrong HW.out
       rw [e]
       exact ⟨none, 0, 0, rfl, Sl.nil, (HB5.out.ext HB5.out.size _).to_ext⟩
  ·have hnx : ∀ ty, (Instr.next (.pointer (some ⟨w.heap.size + 1, 0, none⟩)) true ty).run Tryz.prog wr = _ := fun ty => Lib.run_next_end_at wr (w.heap.size + 1) s pos ty hit hp
   have HEND := hide (items_end hp)
   have hltr := HR.out.lt
   go_wp2_with fail
   have HC := hide (close_any wr w.heap.size w.heap.size q st HR.out HVR.out (k) HSM.out (by have := HK68.out; omega))
   have HXX := hide (show resS (closeS st) = R0 from by rw [← HRUN.out, HEND.out]; rfl)
   have HBB := hide (show Below w.heap.size w wr from HB.out)
   have HRR := hide (show RdAt wr w.heap.size w.heap.size q st from HR.out)
   obtain ⟨Y, hY⟩ : ∃ Y, closeS st = Y := ⟨_, rfl⟩
   rw [hY] at HC HXX
   clear hY
   by_cases hw : Y.wrong = 0
   ·have HW := hide hw; clear hw
    go_wp2_with (first | (go_at_call 131; refine HC.out.mono ?_; rintro e w5 ⟨rfl, q5, hR5, hF5⟩; have HR5 := hide hR5; have HB5 := hide (HBB.out.trans (hF5.below HRR.out)); have hlt5 := hR5.lt; have y8 := hR5.k8; have y9 := hR5.k9; have y10 := hR5.k10; obtain ⟨Aw, cw, hwv⟩ := hR5.words.form; have y7 := hR5.k7; rw [hwv] at y7; have HO5 := hide hR5.words; rw [hwv] at HO5; clear hR5 hF5 hwv; rw [HW.out] at y8))
    refine bodyPost_ret (results_tmp4 rfl _ _ _) rfl ?_
    have e : R0 = ⟨Y.words, 0, 0, 0⟩ := by rw [← HXX.out]; unfold resS; rw [if_neg (by simp [HW.out])]
    rw [e]
    exact ⟨Aw, _, cw, rfl, HO5.out.sl (fun b _ h => by rcases h with h | h; exact h.elim; exact h), HB5.out.to_ext⟩
   ·have HW := hide hw
    have hw1 : (Y.wrong != 0) = true := by simpa [bne] using hw
    have hw2 : (Y.wrong == 0) = false := by simpa using hw
    clear hw
    go_wp2_with (first | (go_at_call 131; refine HC.out.mono ?_; rintro e w5 ⟨rfl, q5, hR5, hF5⟩; have HR5 := hide hR5; have HB5 := hide (HBB.out.trans (hF5.below HRR.out)); have hlt5 := hR5.lt; have y8 := hR5.k8; have y9 := hR5.k9; have y10 := hR5.k10; obtain ⟨Aw, cw, hwv⟩ := hR5.words.form; have y7 := hR5.k7; rw [hwv] at y7; have HO5 := hide hR5.words; rw [hwv] at HO5; clear hR5 hF5 hwv))
    refine wp_region_ext (by kernel_rfl) (by kernel_rfl) ?_
    repeat (any_goals (first | go_big_quiet_step ((fail)) | quiet_step ((fail))))
    refine wpQuiet_nil ?_
    rintro _ ⟨uq, rfl⟩
    go_wp2_with fail
    refine bodyPost_ret (results_tmp4 rfl _ _ _) rfl ?_
    have e : R0 = errR Y.al Y.ac Y.wrong := by rw [← HXX.out]; exact res_wrong HW.out
    rw [e]
    exact ⟨none, 0, 0, rfl, Sl.nil, (HB5.out.ext HB5.out.size _).to_ext⟩
end Go.Proofs.YtljglhaeonbfoaaGreatDoor
