/- The reader's methods: close, take. -/
import Derived.Test.YtmlopggainkoiaaDoorRDc
set_option linter.unusedSimpArgs false
set_option linter.unusedVariables false
namespace Go.Proofs.YtmlopggainkoiaaDoor
open Go.RowKit

theorem RdAt.close_end {w W : World} {base R : Nat} {q q' : RdM} {x : St} (h : RdAt W base R q' x) (f : RdFr q q' R w W) :
    RdP base R q w { x with text := [], state := 0 } (.returned (.tuple #[])) ((W.setCell ⟨R, 5, none⟩ (.slice none 0 0)).setCell ⟨R, 2, none⟩ (.int .i64 0)) := by
  have h1 := h.put_text (v := .slice none 0 0) (l := []) (World.grownBy.refl W none) (fun g e => by cases e) (OwnL.nil_ W base _ _) (fun e => by simp [Value.ownBlock] at e) (fun g e => by simp [Value.ownBlock] at e)
  have h2 : RdAt ((W.setCell ⟨R, 5, none⟩ (.slice none 0 0)).setCell ⟨R, 2, none⟩ (.int .i64 0)) base R { q' with tv := .slice none 0 0 } { x with text := [], state := 0 } := h1.put_ rfl rfl rfl
  refine ⟨rfl, _, h2, f.trans ?_⟩
  have e : RdFr q' { q' with tv := .slice none 0 0 } R W (W.setCell ⟨R, 5, none⟩ (.slice none 0 0)) := (RdFr.refl (q := q') (R := R)).swap 5 _ (by
    rintro b (e | e | e)
    · exact .inl (.inl e)
    · simp [Value.ownBlock] at e
    · exact .inl (.inr (.inr e)))
  exact e.trans (RdFr.put _ _)

set_option maxRecDepth 100000 in
theorem close_any (w : World) (base R : Nat) (q : RdM) (st : St) (h : RdAt w base R q st) (hv : Vars w) (k : Nat) (hs : Small st k) (hk : k ≤ 137438953472) :
    Calls Tryd.prog 44 #[.pointer (some ⟨R, 0, none⟩)] w (RdP base R q w (closeS st)) := by
  have k2 := h.k2; have k3 := h.k3; have k4 := h.k4; have k5 := h.k5; have hlt := h.lt
  have f2 := h.fz 2; have f5 := h.fz 5
  have hcv := h.text.runes
  obtain ⟨At, ct, ht⟩ := h.text.form
  rw [rus_len] at ht
  rw [ht] at k5 hcv
  have HL := hide (show st.text.length ≤ k from hs.text)
  have cfail : ∀ (e : Int) (W : World), RdAt W base R q st → Calls Tryd.prog 45 #[.pointer (some ⟨R, 0, none⟩), .int .i64 e, .agg #[.int .i64 st.fl, .int .i64 st.fc]] W (RdP base R q W (failS e st.fl st.fc st)) := fun e W h => fail_any W base R q st h e st.fl st.fc
  have cput : ∀ (x : St) (W : World) (q' : RdM) (k' n : Int) (s : ByteArray), RdAt W base R q' x → x.fl = st.fl → x.fc = st.fc → x.words = st.words → InI k' → InI n → s.size ≤ maxLen → Calls Tryd.prog 87 #[.pointer (some ⟨R, 0, none⟩), .int .i64 k', .string s, .int .i64 n] W (RdP base R q' W (putS k' s n x)) := fun x W q' k' n s hx e1 e2 e3 hk' hn hs' =>
    put_any W base R q' x hx k' n s hk' hn hs' (by rw [e1]; exact InI.of_nat hs.fl0 hs.fl1 (by omega)) (by rw [e2]; exact InI.of_nat hs.fc0 hs.fc1 (by omega)) (by rw [e3]; have := hs.words; omega)
  have CF := hide cfail; have CP := hide cput; clear cfail cput
  have HR := hide h; have HV := hide hv; have HS := hide hs; have HK := hide hk
  clear h hv hs hk ht
  have hts : (runesBytes st.text).size ≤ 549755813888 := by have := runes_size st.text; have := HL.out; have := HK.out; omega
  have HTS := hide hts; clear hts
  have HN := hide (numN_in (runesBytes st.text))
  obtain ⟨tx, htx⟩ : ∃ tx, runesBytes st.text = tx := ⟨_, rfl⟩
  rw [htx] at hcv HTS HN
  have HTX := hide htx; clear htx
  generalize hn : st.text.length = n at k5 hcv HL
  have HNL := hide hn; clear hn
  by_cases h2 : st.state = 2
  · rw [h2] at k2
    have H2 := hide h2; clear h2
    by_cases hb : 16 < n
    · go_enter Tryd.func44, Tryd.ntmps44
      go_wp2_with (first | (go_at_call 45; refine (CF.out 3 w HR.out).mono ?_; rintro e w2 ⟨rfl, q2, hR2, hF2⟩; have HR2 := hide hR2; have HF2 := hide hF2; have y5 := hR2.k5; have y2 := hR2.k2; have g5 := hR2.fz 5; have g2 := hR2.fz 2; have lt2 := hR2.lt; clear hR2 hF2) | (go_at_call 87; refine (CP.out (failS 3 st.fl st.fc st) w2 q2 1 0 tx HR2.out (by unfold failS; split <;> rfl) (by unfold failS; split <;> rfl) (by unfold failS; split <;> rfl) ⟨by decide, by decide⟩ ⟨by decide, by decide⟩ (by have := HTS.out; unfold maxLen; omega)).mono ?_; rintro e w3 ⟨rfl, q3, hR3, hF3⟩; have HR3 := hide hR3; have HF3 := hide hF3; have z5 := hR3.k5; have z2 := hR3.k2; have l5 := hR3.fz 5; have l2 := hR3.fz 2; have lt3 := hR3.lt; clear hR3 hF3))
      go_end0
      have e : closeS st = { putS 1 tx 0 (failS 3 st.fl st.fc st) with text := [], state := 0 } := by rw [← HTX.out]; have hb' := hb; rw [← HNL.out] at hb'; simp only [closeS, H2.out, hb', if_true]
      rw [e]
      exact HR3.out.close_end (HF2.out.trans HF3.out)
    · go_enter Tryd.func44, Tryd.ntmps44
      go_wp2_with (first | (go_at_call 87; refine (CP.out st w q 1 0 tx HR.out rfl rfl rfl ⟨by decide, by decide⟩ ⟨by decide, by decide⟩ (by have := HTS.out; unfold maxLen; omega)).mono ?_; rintro e w3 ⟨rfl, q3, hR3, hF3⟩; have HR3 := hide hR3; have HF3 := hide hF3; have z5 := hR3.k5; have z2 := hR3.k2; have l5 := hR3.fz 5; have l2 := hR3.fz 2; have lt3 := hR3.lt; clear hR3 hF3))
      go_end0
      have e : closeS st = { putS 1 tx 0 st with text := [], state := 0 } := by rw [← HTX.out]; have hb' := hb; rw [← HNL.out] at hb'; simp only [closeS, H2.out, hb', if_true, if_false]
      rw [e]
      exact HR3.out.close_end HF3.out
  · by_cases h4 : st.state = 4
    · rw [h4] at k2
      have H4 := hide h4; clear h4 h2
      obtain ⟨v, hvv⟩ : ∃ v, numN tx = v := ⟨_, rfl⟩
      have HVV := hide hvv
      have HNI := hide (show InI v by rw [← hvv]; exact HN.out)
      clear hvv
      cases hok : numOk tx
      · have HOK := hide hok
        have ca := hide (atoi_no tx w (by have := HTS.out; omega) HV.out hok)
        clear hok
        rw [HVV.out] at ca
        go_enter Tryd.func44, Tryd.ntmps44
        go_wp2_with (first | (go_at_call 88; refine ca.out.mono ?_; rintro e _ ⟨N, rfl, u, rfl⟩; have HE := hide (HR.out.ext u); have HF1 := hide (RdFr.of_below (q := q) (R := R) (Below.of_ext w u (Nat.le_refl _)))) | (go_at_call 45; refine (CF.out 3 (w.ext u) HE.out).mono ?_; rintro e w2 ⟨rfl, q2, hR2, hF2⟩; have HR2 := hide hR2; have HF2 := hide hF2; have y5 := hR2.k5; have y2 := hR2.k2; have g5 := hR2.fz 5; have g2 := hR2.fz 2; have lt2 := hR2.lt; clear hR2 hF2) | (go_at_call 87; refine (CP.out (failS 3 st.fl st.fc st) w2 q2 2 v tx HR2.out (by unfold failS; split <;> rfl) (by unfold failS; split <;> rfl) (by unfold failS; split <;> rfl) ⟨by decide, by decide⟩ HNI.out (by have := HTS.out; unfold maxLen; omega)).mono ?_; rintro e w3 ⟨rfl, q3, hR3, hF3⟩; have HR3 := hide hR3; have HF3 := hide hF3; have z5 := hR3.k5; have z2 := hR3.k2; have l5 := hR3.fz 5; have l2 := hR3.fz 2; have lt3 := hR3.lt; clear hR3 hF3))
        go_end0
        have hbad : numBad (runesBytes st.text) = true := by rw [HTX.out, numBad_eq, HOK.out, HVV.out]; rfl
        have e : closeS st = { putS 2 tx v (failS 3 st.fl st.fc st) with text := [], state := 0 } := by rw [← HVV.out, ← HTX.out]; simp only [closeS, H4.out, hbad]; rfl
        rw [e]
        exact HR3.out.close_end ((HF1.out.trans HF2.out).trans HF3.out)
      · have HOK := hide hok
        have ca := hide (atoi_ok tx w (by have := HTS.out; omega) hok)
        clear hok
        rw [HVV.out] at ca
        by_cases hlo : v < -1099511627776
        · go_enter Tryd.func44, Tryd.ntmps44
          go_wp2_with (first | (go_at_call 88; refine ca.out.mono ?_; rintro e _ ⟨rfl, u, rfl⟩; have HE := hide (HR.out.ext u); have HF1 := hide (RdFr.of_below (q := q) (R := R) (Below.of_ext w u (Nat.le_refl _)))) | (go_at_call 45; refine (CF.out 3 (w.ext u) HE.out).mono ?_; rintro e w2 ⟨rfl, q2, hR2, hF2⟩; have HR2 := hide hR2; have HF2 := hide hF2; have y5 := hR2.k5; have y2 := hR2.k2; have g5 := hR2.fz 5; have g2 := hR2.fz 2; have lt2 := hR2.lt; clear hR2 hF2) | (go_at_call 87; refine (CP.out (failS 3 st.fl st.fc st) w2 q2 2 v tx HR2.out (by unfold failS; split <;> rfl) (by unfold failS; split <;> rfl) (by unfold failS; split <;> rfl) ⟨by decide, by decide⟩ HNI.out (by have := HTS.out; unfold maxLen; omega)).mono ?_; rintro e w3 ⟨rfl, q3, hR3, hF3⟩; have HR3 := hide hR3; have HF3 := hide hF3; have z5 := hR3.k5; have z2 := hR3.k2; have l5 := hR3.fz 5; have l2 := hR3.fz 2; have lt3 := hR3.lt; clear hR3 hF3))
          go_end0
          have hbad : numBad (runesBytes st.text) = true := by rw [HTX.out, numBad_eq, HOK.out, HVV.out]; simp [hlo]
          have e : closeS st = { putS 2 tx v (failS 3 st.fl st.fc st) with text := [], state := 0 } := by rw [← HVV.out, ← HTX.out]; simp only [closeS, H4.out, hbad]; rfl
          rw [e]
          exact HR3.out.close_end ((HF1.out.trans HF2.out).trans HF3.out)
        · by_cases hhi : 1099511627776 < v
          · go_enter Tryd.func44, Tryd.ntmps44
            go_wp2_with (first | (go_at_call 88; refine ca.out.mono ?_; rintro e _ ⟨rfl, u, rfl⟩; have HE := hide (HR.out.ext u); have HF1 := hide (RdFr.of_below (q := q) (R := R) (Below.of_ext w u (Nat.le_refl _)))) | (go_at_call 45; refine (CF.out 3 (w.ext u) HE.out).mono ?_; rintro e w2 ⟨rfl, q2, hR2, hF2⟩; have HR2 := hide hR2; have HF2 := hide hF2; have y5 := hR2.k5; have y2 := hR2.k2; have g5 := hR2.fz 5; have g2 := hR2.fz 2; have lt2 := hR2.lt; clear hR2 hF2) | (go_at_call 87; refine (CP.out (failS 3 st.fl st.fc st) w2 q2 2 v tx HR2.out (by unfold failS; split <;> rfl) (by unfold failS; split <;> rfl) (by unfold failS; split <;> rfl) ⟨by decide, by decide⟩ HNI.out (by have := HTS.out; unfold maxLen; omega)).mono ?_; rintro e w3 ⟨rfl, q3, hR3, hF3⟩; have HR3 := hide hR3; have HF3 := hide hF3; have z5 := hR3.k5; have z2 := hR3.k2; have l5 := hR3.fz 5; have l2 := hR3.fz 2; have lt3 := hR3.lt; clear hR3 hF3))
            go_end0
            have hbad : numBad (runesBytes st.text) = true := by rw [HTX.out, numBad_eq, HOK.out, HVV.out]; simp [hhi]
            have e : closeS st = { putS 2 tx v (failS 3 st.fl st.fc st) with text := [], state := 0 } := by rw [← HVV.out, ← HTX.out]; simp only [closeS, H4.out, hbad]; rfl
            rw [e]
            exact HR3.out.close_end ((HF1.out.trans HF2.out).trans HF3.out)
          · go_enter Tryd.func44, Tryd.ntmps44
            go_wp2_with (first | (go_at_call 88; refine ca.out.mono ?_; rintro e _ ⟨rfl, u, rfl⟩; have HE := hide (HR.out.ext u); have HF1 := hide (RdFr.of_below (q := q) (R := R) (Below.of_ext w u (Nat.le_refl _)))) | (go_at_call 87; refine (CP.out st (w.ext u) q 2 v tx HE.out rfl rfl rfl ⟨by decide, by decide⟩ HNI.out (by have := HTS.out; unfold maxLen; omega)).mono ?_; rintro e w3 ⟨rfl, q3, hR3, hF3⟩; have HR3 := hide hR3; have HF3 := hide hF3; have z5 := hR3.k5; have z2 := hR3.k2; have l5 := hR3.fz 5; have l2 := hR3.fz 2; have lt3 := hR3.lt; clear hR3 hF3))
            go_end0
            have hbad : numBad (runesBytes st.text) = false := by rw [HTX.out, numBad_eq, HOK.out, HVV.out]; simp [hlo, hhi]
            have e : closeS st = { putS 2 tx v st with text := [], state := 0 } := by rw [← HVV.out, ← HTX.out]; simp only [closeS, H4.out, hbad]; rfl
            rw [e]
            exact HR3.out.close_end (HF1.out.trans HF3.out)
    · by_cases h3 : st.state = 3
      · rw [h3] at k2
        have H3 := hide h3; clear h3 h4 h2
        go_enter Tryd.func44, Tryd.ntmps44
        go_wp2_with (first | (go_at_call 45; refine (CF.out 6 w HR.out).mono ?_; rintro e w2 ⟨rfl, q2, hR2, hF2⟩; have HR2 := hide hR2; have HF2 := hide hF2; have y5 := hR2.k5; have y2 := hR2.k2; have g5 := hR2.fz 5; have g2 := hR2.fz 2; have lt2 := hR2.lt; clear hR2 hF2))
        go_end0
        have e : closeS st = { failS 6 st.fl st.fc st with text := [], state := 0 } := by simp only [closeS, H3.out]; rfl
        rw [e]
        exact HR2.out.close_end HF2.out
      · have b2 : (st.state == 2) = false := by simpa using h2
        have b3 : (st.state == 3) = false := by simpa using h3
        have b4 : (st.state == 4) = false := by simpa using h4
        have e : closeS st = { st with text := [], state := 0 } := by simp only [closeS, h2, h3, h4, if_false]
        rw [e]
        clear e h2 h3 h4
        go_enter Tryd.func44, Tryd.ntmps44
        go_wp2_with fail
        go_end0
        exact HR.out.close_end RdFr.refl
end Go.Proofs.YtmlopggainkoiaaDoor
