/- The document's Show. -/
import Derived.Test.YtmlopggainkoiaaDoorSH2
set_option linter.unusedSimpArgs false
set_option linter.unusedVariables false
namespace Go.Proofs.YtmlopggainkoiaaDoor
open Go.RowKit

theorem showF_nil (fresh : Bool) (out : ByteArray) : showF fresh [] out = some out := rfl

set_option maxRecDepth 100000 in
set_option maxHeartbeats 40000000 in
theorem show1_any (w : World) (S : Nat → Prop) (A : Option Addr) (n c : Nat) (xs : List Word) (h : Sl w S A n c xs) (hv : VarsS w) (ht : totL xs ≤ 8589934592) : Calls Tryd.prog 20 #[.slice A n c] w (RetShow (showF true xs ByteArray.empty) w) := by
  have hn := h.nle
  have HS := hide h; have HV := hide hv; have HT := hide ht
  have H7 := hide hv.v.sz
  clear h hv ht
  obtain ⟨R0, hR0⟩ : ∃ R0, showF true xs ByteArray.empty = R0 := ⟨_, rfl⟩
  rw [hR0]
  have HR0 := hide hR0; clear hR0
  go_enter Tryd.func20, Tryd.ntmps20
  go_wp2_with fail
  go_loopw [4, 5] (fun a b wr => ∃ (k : Nat) (fresh : Bool) (acc : ByteArray), a = .string acc ∧ b = .int .i64 k ∧ k ≤ n ∧ (fresh = true ↔ (k = 0 ∨ ∃ y, xs[k - 1]? = some y ∧ y.kind = 4)) ∧ (∃ u : Ext, wr = w.ext u) ∧ showF fresh (xs.drop k) acc = R0 ∧ acc.size + totL (xs.drop k) ≤ 8589934592) (fun _ b _ => n - (intOf b).toNat)
  case atStart =>
    exact ⟨0, true, ByteArray.empty, rfl, rfl, Nat.zero_le _, ⟨fun _ => .inl rfl, fun _ => rfl⟩, ext_refl w, HR0.out, by have := HT.out; simpa using this⟩
  case round =>
    obtain ⟨k, fresh, acc, rfl, rfl, hk, hfr, ⟨u, rfl⟩, hsh, hsz⟩ := hrel
    have HFR := hide hfr; have HSH := hide hsh; have HSZ := hide hsz
    clear hfr hsh hsz
    by_cases hlt : k < n
    · obtain ⟨b, off, x, rfl, hb, hx, i0, i1, i2, i3, i4, c0, c1, c2, c3, c4⟩ := at_Word HS.out hlt
      have HD := hide (drop_at hx); have HTT := hide (totL_at hx)
      have HX := hide hx
      obtain ⟨kd, tx, nn, ln, cl⟩ := x
      simp only at i0 i1 i2 i3 i4 c0 c1 c2 c3 c4
      have HI2 := hide i2
      clear hx i0 i1 i2 i3 i4
      have HTX := hide (show tx.size ≤ 8589934592 by have := HSZ.out; rw [HTT.out] at this; simp only at this; omega)
      have HRI := hide (right1_any ⟨kd, tx, nn, ln, cl⟩ (w.ext u) (HV.out.ext u) HI2.out (by have := HTX.out; simp only; omega))
      simp only at HRI
      have HSF := hide (showF_cons fresh ⟨kd, tx, nn, ln, cl⟩ (xs.drop (k + 1)) acc)
      simp only at HSF
      obtain ⟨rt, hrt⟩ : ∃ rt, rightW ⟨kd, tx, nn, ln, cl⟩ = rt := ⟨_, rfl⟩
      rw [hrt] at HRI HSF; clear hrt
      have HSTEP := hide (show ∀ r, showF fresh (⟨kd, tx, nn, ln, cl⟩ :: xs.drop (k + 1)) acc = r → R0 = r from fun r hr => by rw [← HSH.out, HD.out]; exact hr)
      have HLEN := hide (show acc.size + (tx.size + 1 + totL (xs.drop (k + 1))) ≤ 8589934592 by have := HSZ.out; rw [HTT.out] at this; exact this)
      rw [HSF.out] at HSTEP
      clear HSF HSZ HTT HSH
      cases rt
      · go_wp2_with (first | (go_at_call 59; refine HRI.out.mono ?_; rintro e _ ⟨rfl, u1, rfl⟩; refine Hd.out ?_))
        refine hide ?_
        go_wp2_with fail
        go_ret2
        have e := HSTEP.out none (if_pos (by trivial))
        rw [e]
        exact ⟨rfl, ext_ext w u u1⟩
      · by_cases h4 : kd = 4
        · subst h4
          have HS4 := hide (HSTEP.out _ (show _ = showF true (xs.drop (k + 1)) (acc ++ ⟨#[10]⟩) by rw [if_neg (by decide), if_pos rfl]))
          have g1 : acc.size + (⟨#[10]⟩ : ByteArray).size ≤ 9223372036854775807 := by have := HLEN.out; show acc.size + 1 ≤ _; omega
          go_wp2_with (first | (go_at_call 59; refine HRI.out.mono ?_; rintro e _ ⟨rfl, u1, rfl⟩; refine Hd.out ?_))
          refine hide ?_
          clear HRI
          go_wp2_with (simp only [run_string_add_sum _ _ _ g1])
          go_roundw
          case rel => exact ⟨k + 1, true, acc ++ ⟨#[10]⟩, rfl, by go_num, by omega, ⟨fun _ => .inr ⟨_, HX.out, rfl⟩, fun _ => rfl⟩, ext_ext w u u1, HS4.out.symm, by have := HLEN.out; rw [ByteArray.size_append]; show acc.size + 1 + _ ≤ _; omega⟩
          case measure => simp [intOf]; omega
        · have k4 : (kd == 4) = false := by simpa using h4
          have HNF := hide (show ¬ ((k + 1 = 0) ∨ ∃ y, xs[k + 1 - 1]? = some y ∧ y.kind = 4) from fun h => h.elim (fun h => by omega) fun ⟨y, hy, h4'⟩ => h4 (by have := HX.out.symm.trans hy; injection this with e; rw [← e] at h4'; exact h4'))
          cases fresh
          · have HS4 := hide (HSTEP.out _ (show _ = showF false (xs.drop (k + 1)) ((acc ++ ⟨#[32]⟩) ++ tx) by rw [if_neg (by decide), if_neg h4, if_neg (by decide)]))
            clear h4
            obtain ⟨m, rfl⟩ : ∃ m, k = m + 1 := ⟨k - 1, (Nat.succ_pred_eq_of_ne_zero fun h => absurd (HFR.out.2 (.inl h)) (by decide)).symm⟩
            obtain ⟨b', off', y, e', hb', hy, _, _, _, _, _, d0, _, _, _, _⟩ := at_Word HS.out (show m < n by omega)
            obtain ⟨rfl, rfl⟩ : b = b' ∧ off = off' := by injection e' with e'; injection e' with e1 e2; exact ⟨e1, e2⟩
            have m4 : (y.kind == 4) = false := by
              have : y.kind ≠ 4 := fun h => absurd (HFR.out.2 (.inr ⟨y, hy, h⟩)) (by decide)
              simpa using this
            clear e' hy
            go_wp2_with (first | (go_at_call 59; refine HRI.out.mono ?_; rintro e _ ⟨rfl, u1, rfl⟩; refine Hd.out ?_))
            refine hide ?_
            have p0 : decide ((0 : Int) < (m + 1 : Nat)) = true := by simp
            clear HRI
            have g1 : acc.size + (⟨#[32]⟩ : ByteArray).size ≤ 9223372036854775807 := by have := HLEN.out; show acc.size + 1 ≤ _; omega
            have g2 : (acc ++ ⟨#[32]⟩).size + tx.size ≤ 9223372036854775807 := by have := HLEN.out; simp only [ByteArray.size_append]; show acc.size + 1 + _ ≤ _; omega
            go_wp2_with (simp only [run_string_add_sum _ _ _ g1, run_string_add_sum _ _ _ g2])
            go_roundw
            case rel => exact ⟨m + 1 + 1, false, (acc ++ ⟨#[32]⟩) ++ tx, rfl, by go_num, by omega, ⟨fun h => (Bool.noConfusion h), fun h => (HNF.out h).elim⟩, ext_ext w u u1, HS4.out.symm, by have := HLEN.out; simp only [ByteArray.size_append]; show acc.size + 1 + _ + _ ≤ _; omega⟩
            case measure => simp [intOf]; omega
          · have HS4 := hide (HSTEP.out _ (show _ = showF false (xs.drop (k + 1)) (acc ++ tx) by rw [if_neg (by decide), if_neg h4, if_pos rfl]))
            clear h4
            rcases HFR.out.1 rfl with rfl | ⟨y, hy, hy4⟩
            · simp only [Nat.zero_mul, Nat.add_zero] at c0 c1 c2 c3 c4
              go_wp2_with (first | (go_at_call 59; refine HRI.out.mono ?_; rintro e _ ⟨rfl, u1, rfl⟩; refine Hd.out ?_))
              refine hide ?_
              clear HRI
              have g1 : acc.size + tx.size ≤ 9223372036854775807 := by have := HLEN.out; omega
              go_wp2_with (simp only [run_string_add_sum _ _ _ g1])
              go_roundw
              case rel => exact ⟨0 + 1, false, acc ++ tx, rfl, by go_num, by omega, ⟨fun h => (Bool.noConfusion h), fun h => (HNF.out h).elim⟩, ext_ext w u u1, HS4.out.symm, by have := HLEN.out; simp only [ByteArray.size_append]; omega⟩
              case measure => simp [intOf]; omega
            · by_cases hk0 : k = 0
              · subst hk0
                simp only [Nat.zero_mul, Nat.add_zero] at c0 c1 c2 c3 c4
                go_wp2_with (first | (go_at_call 59; refine HRI.out.mono ?_; rintro e _ ⟨rfl, u1, rfl⟩; refine Hd.out ?_))
                refine hide ?_
                clear HRI
                have g1 : acc.size + tx.size ≤ 9223372036854775807 := by have := HLEN.out; omega
                go_wp2_with (simp only [run_string_add_sum _ _ _ g1])
                go_roundw
                case rel => exact ⟨0 + 1, false, acc ++ tx, rfl, by go_num, by omega, ⟨fun h => (Bool.noConfusion h), fun h => (HNF.out h).elim⟩, ext_ext w u u1, HS4.out.symm, by have := HLEN.out; simp only [ByteArray.size_append]; omega⟩
                case measure => simp [intOf]; omega
              · obtain ⟨m, rfl⟩ : ∃ m, k = m + 1 := ⟨k - 1, by omega⟩
                obtain ⟨b', off', y', e', hb', hy', _, _, _, _, _, d0, _, _, _, _⟩ := at_Word HS.out (show m < n by omega)
                obtain ⟨rfl, rfl⟩ : b = b' ∧ off = off' := by injection e' with e'; injection e' with e1 e2; exact ⟨e1, e2⟩
                obtain rfl : y = y' := by
                  have := hy.symm.trans hy'; injection this
                rw [hy4] at d0
                clear e' hy hy'
                go_wp2_with (first | (go_at_call 59; refine HRI.out.mono ?_; rintro e _ ⟨rfl, u1, rfl⟩; refine Hd.out ?_))
                refine hide ?_
                have p0 : decide ((0 : Int) < (m + 1 : Nat)) = true := by simp
                clear HRI
                have g1 : acc.size + tx.size ≤ 9223372036854775807 := by have := HLEN.out; omega
                go_wp2_with (simp only [run_string_add_sum _ _ _ g1])
                go_roundw
                case rel => exact ⟨m + 1 + 1, false, acc ++ tx, rfl, by go_num, by omega, ⟨fun h => (Bool.noConfusion h), fun h => (HNF.out h).elim⟩, ext_ext w u u1, HS4.out.symm, by have := HLEN.out; simp only [ByteArray.size_append]; omega⟩
                case measure => simp [intOf]; omega
    · have HEND := hide (show R0 = some acc by rw [← HSH.out, drop_end HS.out.len hlt]; rfl)
      go_wp2_with fail
      go_ret2
      rw [HEND.out]
      exact ⟨rfl, u, rfl⟩
end Go.Proofs.YtmlopggainkoiaaDoor
