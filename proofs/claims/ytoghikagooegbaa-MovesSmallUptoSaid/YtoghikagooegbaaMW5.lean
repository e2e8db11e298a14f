/- Walks: the document's moves: Row, Rings. -/
import Derived.Test.YtoghikagooegbaaMW2
import Derived.Test.YtoghikagooegbaaMW4
set_option linter.unusedSimpArgs false
set_option linter.unusedVariables false
namespace Go.Proofs.Ytoghikagooegbaa
open Go.RowKit Go.Maps

set_option maxRecDepth 100000 in
set_option maxHeartbeats 8000000 in
theorem rowInsD_any (w : World) (S : Nat → Prop) (A : Option Addr) (n c : Nat) (xs : List Move) (h : Sl w S A n c xs) (hm : n ≤ 1048576) (t : Int) (ht : InI t) :
    Calls Try.prog 9 #[.slice A n c, .int .i64 t] w (RetRow26 (rowIns xs t) (rowErr xs t) w) := by
  obtain ⟨r, hr⟩ : ∃ r, rightM' xs (spL t) = r := ⟨_, rfl⟩
  have HRT := hide (show Calls Try.prog 13 #[.slice A n c, .int .i64 t] w (RetX (.bool r) w) by
    have h1 := rightD_any w S A n c xs h t
    rw [rightD_eq, hr] at h1
    exact h1)
  unfold rowIns rowErr
  rw [hr]
  cases r with
  | false =>
    clear hr h
    go_enter Try.func9, Try.ntmps9
    go_wp2_with (go_at_call 13; (with_reducible refine HRT.out.mono ?_); rintro e _ ⟨rfl, u1, rfl⟩)
    go_ret2
    exact ⟨none, 0, 0, rfl, OwnL.nil_ _ _ _ _, u1, rfl⟩
  | true =>
    have HRW := hide (fun u1 : Ext => rowD_any (w.ext u1) S A n c xs (h.ext u1) hm t ht (rightM_iff.1 hr))
    simp only [if_true]
    clear hr h
    go_enter Try.func9, Try.ntmps9
    go_wp2_with (first
      | (go_at_call 13; (with_reducible refine HRT.out.mono ?_); rintro e _ ⟨rfl, u1, rfl⟩)
      | (go_at_call 28; (with_reducible refine (HRW.out _).mono ?_); rintro e _ ⟨A2, n2, c2, rfl, ho, u2, rfl⟩; have HO := hide ho; clear ho))
    go_ret2
    refine ⟨A2, n2, c2, rfl, HO.out.lower (by rw [size_ext]; omega), Below.to_ext ((Below.of_ext w u1 (Nat.le_refl _)).ext (by rw [size_ext]; omega) u2)⟩
theorem ringsM_none {xs : List Move} (h : ∀ j : Nat, j < 400 → rightM' xs (spL (j : Nat)) = false) : ringsM xs = 0 := by
  unfold ringsM
  rw [if_neg]
  have hle := firstT_le xs
  rcases Nat.lt_or_ge (firstT xs) 400 with h1 | h1
  · rw [h _ h1]; decide
  · have e : firstT xs = 400 := by omega
    rw [e]
    unfold rightM'
    rw [show okL (spL (400 : Nat)) = false by decide]
    simp
set_option maxRecDepth 100000 in
set_option maxHeartbeats 8000000 in
theorem ringsD_any (w : World) (S : Nat → Prop) (A : Option Addr) (n c : Nat) (xs : List Move) (h : Sl w S A n c xs) (hm : n ≤ 1048576) :
    Calls Try.prog 18 #[.slice A n c] w (RetX (.int .i64 (ringsM xs : Nat)) w) := by
  have HS := hide h
  clear h
  go_enter Try.func18, Try.ntmps18
  go_wp2_with fail
  go_loopw [3] (fun i wr => ∃ k : Nat, k ≤ 400 ∧ i = .int .i64 k ∧ (∀ j : Nat, j < k → rightM' xs (spL (j : Nat)) = false) ∧ ∃ u : Ext, wr = w.ext u) (fun i _ => 400 - (intOf i).toNat)
  case atStart => exact ⟨0, Nat.zero_le _, rfl, fun j hj => absurd hj (by omega), ext_refl _⟩
  case round =>
    obtain ⟨k, hk, rfl, hnr, u, rfl⟩ := hrel
    have HNR := hide hnr
    clear hnr
    by_cases hlt : k < 400
    · have hki : (k : Int) < 400 := by omega
      obtain ⟨r, hr⟩ : ∃ r, rightM' xs (spL (k : Nat)) = r := ⟨_, rfl⟩
      have HRT := hide (show Calls Try.prog 13 #[.slice A n c, .int .i64 k] (w.ext u) (RetX (.bool r) (w.ext u)) by
        have h1 := rightD_any (w.ext u) S A n c xs (HS.out.ext u) (k : Nat)
        rw [rightD_eq, hr] at h1
        exact h1)
      cases r with
      | false =>
        have HNN := hide (show ∀ j : Nat, j < k + 1 → rightM' xs (spL (j : Nat)) = false from fun j hj => by
          rcases Nat.lt_or_ge j k with h | h
          · exact HNR.out j h
          · obtain rfl : j = k := by omega
            exact hr)
        clear hr
        go_wp2_with (go_at_call 13; (with_reducible refine HRT.out.mono ?_); rintro e _ ⟨rfl, u1, rfl⟩)
        first
          | (go_roundw; case rel => exact ⟨k + 1, by omega, by go_num, HNN.out, Below.to_ext ((Below.of_ext w u (Nat.le_refl _)).ext (by rw [size_ext]; omega) u1)⟩; case measure => simp [intOf]; omega)
          | exact ⟨⟨k + 1, by omega, by go_num, HNN.out, Below.to_ext ((Below.of_ext w u (Nat.le_refl _)).ext (by rw [size_ext]; omega) u1)⟩, by simp [intOf]; omega⟩
      | true =>
        have hsd := rightM_iff.1 hr
        have HRG := hide (ringsM_right hsd)
        have HRW := hide (fun u1 : Ext => rowD_any ((w.ext u).ext u1) S A n c xs ((HS.out.ext u).ext u1) hm (k : Nat) (ini_ (by omega)) hsd)
        rw [← HRG.out] at HRW
        clear hr hsd
        go_wp2_with (first
          | (go_at_call 13; (with_reducible refine HRT.out.mono ?_); rintro e _ ⟨rfl, u1, rfl⟩)
          | (go_at_call 28; (with_reducible refine (HRW.out _).mono ?_); rintro e _ ⟨A2, n2, c2, rfl, ho, u2, rfl⟩; clear ho))
        go_ret
        exact RetX.i rfl ((Below.of_ext w u (Nat.le_refl _)).ext (by rw [size_ext]; omega) u1 |>.ext (by simp only [size_ext]; omega) u2)
    · have hkn : k = 400 := by omega
      have hk4 : decide ((k : Int) < 400) = false := by simp; omega
      have HZ := hide (ringsM_none (xs := xs) fun j hj => HNR.out j (by omega))
      clear hkn
      go_wp2_with fail
      go_ret
      exact RetX.i (by rw [HZ.out]; rfl) (Below.of_ext w u (Nat.le_refl _))
end Go.Proofs.Ytoghikagooegbaa
