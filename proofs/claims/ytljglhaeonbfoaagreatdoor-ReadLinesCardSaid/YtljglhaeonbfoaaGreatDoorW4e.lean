/- law04: walks: an Op's name. -/
import Derived.Test.YtljglhaeonbfoaaGreatDoorG32
import Derived.Test.YtljglhaeonbfoaaGreatDoorG16
set_option linter.unusedSimpArgs false
set_option linter.unusedVariables false
namespace Go.Proofs.YtljglhaeonbfoaaGreatDoor
open Go.RowKit
theorem named_any (w : World) : Calls Tryz.prog 72 #[] w (fun e w' => ∃ A, e = .returned (.slice A 9 9) ∧ Sl w' (fun b => w.heap.size ≤ b) A 9 9 opsB ∧ ∃ u, w' = w.ext u) := by
 go_enter Tryz.func72, Tryz.ntmps72
 go_wp2_with fail
 go_ret
 refine ⟨_, rfl, Sl.lit (S := fun _ => False) (us := opsB.map Value.string) rfl ?_ rfl (by decide) (fun _ h => h.elim) (Nat.le_refl _), Below.to_ext ((Below.refl _ _).alloc (Nat.le_refl _) _)⟩
 have key : ∀ l : List ByteArray, (∀ t ∈ l, t.size ≤ maxLen) → RepL w (fun _ => False) l (l.map Value.string) := by
  intro l
  induction l with
  | nil => intro _; rfl
  | cons x l ih => intro h; exact ⟨[.string x], l.map Value.string, rfl, ⟨rfl, h x List.mem_cons_self⟩, ih fun t ht => h t (List.mem_cons_of_mem _ ht)⟩
 refine key _ ?_
 intro t ht
 simp only [opsB, List.mem_cons, List.not_mem_nil, or_false] at ht
 rcases ht with rfl | rfl | rfl | rfl | rfl | rfl | rfl | rfl | rfl <;> (unfold maxLen; decide)
theorem kindC_cons4 (t : ByteArray) (l : List ByteArray) (k : Nat) (s : Cur) : kindC (t :: l) k s = if isC (.nm t) s = true then (k, popC s) else kindC l (k + 1) s := rfl
set_option maxRecDepth 100000 in
set_option maxHeartbeats 16000000 in
theorem op_any (w : World) (S : Nat → Prop) (c : Nat) (s : Cur) (h : Rd4 w S c s) : Calls Tryz.prog 145 #[rd4 c] w (NumP S c w (opC s)) := by
 have HNS := hide h.cur.nS
 obtain ⟨R, hR⟩ : ∃ R, w.heap.size = R := ⟨_, rfl⟩
 obtain ⟨S1, hS1⟩ : ∃ S1 : Nat → Prop, S1 = fun b => S b ∧ b < R := ⟨_, rfl⟩
 obtain ⟨W1, hW1⟩ : ∃ W1, w.alloc (.cells #[.pointer (some ⟨c, 0, none⟩)] 77) = W1 := ⟨_, rfl⟩
 have HT1 := hide (show RA4 w W1 R c S1 s from by rw [hS1, ← hW1, ← hR]; exact RA4.start h)
 have HS1 := hide hS1
 have HSW := hide (show R < W1.heap.size from HT1.out.rl)
 obtain ⟨X, hX⟩ : ∃ X, opC s = X := ⟨_, rfl⟩
 rw [hX]
 have HXQ := hide hX
 clear h hS1 hX
 go_enter Tryz.func145, Tryz.ntmps145
 go_wp2_with (first | (go_at_call 72; (with_reducible refine (named_any _).mono ?_); rintro e V1 ⟨A1, rfl, hks, u1, hV1⟩; have HT2 := hide (show RA4 w V1 R c S1 s from by rw [hV1]; exact HT1.out.ext u1); have HKS := hide (hks.more fun b _ hb => show c < b from by have := HT1.out.o1; have := HSW.out; have hb : W1.heap.size ≤ b := hb; omega); clear hV1 hks))
 try rw [hR]
 clear hW1 HT1
 go_loopw [7] (fun i wr => ∃ k : Nat, i = .int .i64 k ∧ k ≤ 9 ∧ RA4 w wr R c S1 s ∧ Sl wr (fun b => c < b) A1 9 9 opsB ∧ kindC opsB 2 s = kindC (opsB.drop k) (2 + k) s) (fun i _ => 9 - (intOf i).toNat)
 case atStart => exact ⟨0, rfl, by omega, HT2.out, HKS.out, rfl⟩
 case round =>
  obtain ⟨k, rfl, hk, ht, hks, hkk⟩ := hrel
  have HT := hide ht; have HKS := hide hks; have HKK := hide hkk
  clear ht hks hkk HT2
  have r0 := HT.out.k0
  have rl := HT.out.rl
  by_cases hlt : k < 9
  ·obtain ⟨b, off, x, rfl, hb, _, hx, _, c0⟩ := at_str HKS.out hlt
   have hki : (k : Int) < 9 := by omega
   have HK := hide (cKey HT.out.rd.cur x)
   have HD := hide (show kindC opsB 2 s = if isC (.nm x) s = true then (2 + k, popC s) else kindC (opsB.drop (k + 1)) (2 + (k + 1)) s from by rw [HKK.out, drop_at hx, kindC_cons4]; rfl)
   clear hx
   obtain ⟨q, hq⟩ : ∃ q, isC (.nm x) s = q := ⟨_, rfl⟩
   rw [hq] at HK HD
   clear hq
   cases q with
   | true =>
    have HE := hide (show X = (2 + (k : Int), popC s) from by
     rw [← HXQ.out]
     unfold opC
     rw [HD.out]
     simp only [if_true]
     rw [if_pos (by omega)]
     simp)
    have hw : IntKind.i64.wrap (2 + (k : Int)) = 2 + (k : Int) := IntWalk.i64_in _ (by omega)
    go_wp2_with (first | (go_at_call 39; (with_reducible refine HK.out.mono ?_); rintro e V ⟨rfl, hat, hon⟩; have HTV := hide (HT.out.call hon hat (sfx_over true s)); clear hat hon))
    go_ret
    rw [HE.out]
    exact ⟨rfl, HTV.out.rd.cur.moreS (fun b _ h => by rw [HS1.out] at h; exact h.1) HNS.out, HTV.out.only⟩
   | false =>
    have HD1 := hide (show kindC opsB 2 s = kindC (opsB.drop (k + 1)) (2 + (k + 1)) s from by rw [HD.out]; rfl)
    go_wp2_with (first | (go_at_call 39; (with_reducible refine HK.out.mono ?_); rintro e V ⟨rfl, hat, hon⟩; have HTV := hide (HT.out.call hon hat (sfx_over false s)); have HKV := hide (hon.sl HKS.out (show ¬ c < c by omega)); clear hat hon))
    go_roundw
    case rel => exact ⟨k + 1, by go_num, by omega, HTV.out, HKV.out, HD1.out⟩
    case measure => simp [intOf]; omega
  ·have hk9 : k = 9 := by omega
   have HD := hide (show kindC opsB 2 s = (0, s) from by rw [HKK.out, hk9]; rfl)
   have hki : ¬ (k : Int) < 9 := by omega
   clear hk9 HKK
   obtain ⟨q, hq⟩ : ∃ q, isC (.nm tConst) s = q := ⟨_, rfl⟩
   have HQ := hide hq
   have HK := hide (show Calls Tryz.prog 39 #[.pointer (some ⟨c, 0, none⟩), .string ⟨#[99, 111, 110, 115, 116]⟩] wr (CurP S1 c wr (overC q s) (.bool q)) from by have h := cKey HT.out.rd.cur tConst; rw [hq] at h; exact h)
   clear hq
   cases q with
   | true =>
    have HE := hide (show X = (1, popC s) from by
     rw [← HXQ.out]; unfold opC; rw [HD.out]; simp only; rw [if_neg (by decide), if_pos HQ.out])
    go_wp2_with (first | (go_at_call 39; (with_reducible refine HK.out.mono ?_); rintro e V ⟨rfl, hat, hon⟩; have HTV := hide (HT.out.call hon hat (sfx_over true s)); clear hat hon))
    go_ret
    rw [HE.out]
    exact ⟨rfl, HTV.out.rd.cur.moreS (fun b _ h => by rw [HS1.out] at h; exact h.1) HNS.out, HTV.out.only⟩
   | false =>
    obtain ⟨q2, hq2⟩ : ∃ q, isC (.nm tLoad) s = q := ⟨_, rfl⟩
    have HQ2 := hide hq2
    have HK2 := hide (fun (W : World) (h : CurAt W S1 c s) => show Calls Tryz.prog 39 #[.pointer (some ⟨c, 0, none⟩), .string ⟨#[108, 111, 97, 100]⟩] W (CurP S1 c W (overC q2 s) (.bool q2)) from by have h := cKey h tLoad; rw [hq2] at h; exact h)
    clear hq2
    cases q2 with
    | true =>
     have HE := hide (show X = (11, popC s) from by
      rw [← HXQ.out]; unfold opC; rw [HD.out]; simp only; rw [if_neg (by decide), if_neg (by rw [HQ.out]; decide), if_pos HQ2.out])
     go_wp2_with (first | (go_at_call 39; (with_reducible refine HK.out.mono ?_); rintro e V ⟨rfl, hat, hon⟩; have HTV := hide (HT.out.call hon hat (sfx_over false s)); have r0 := HTV.out.k0; have rl := HTV.out.rl; clear hat hon) | (go_at_call 39; (with_reducible refine (HK2.out _ HTV.out.rd.cur).mono ?_); rintro e V2 ⟨rfl, hat, hon⟩; have HTV2 := hide (HTV.out.call hon hat (sfx_over true s)); clear hat hon))
     go_ret
     rw [HE.out]
     exact ⟨rfl, HTV2.out.rd.cur.moreS (fun b _ h => by rw [HS1.out] at h; exact h.1) HNS.out, HTV2.out.only⟩
    | false =>
     obtain ⟨q3, hq3⟩ : ∃ q, isC (.nm tCall) s = q := ⟨_, rfl⟩
     have HQ3 := hide hq3
     have HK3 := hide (fun (W : World) (h : CurAt W S1 c s) => show Calls Tryz.prog 39 #[.pointer (some ⟨c, 0, none⟩), .string ⟨#[99, 97, 108, 108]⟩] W (CurP S1 c W (overC q3 s) (.bool q3)) from by have h := cKey h tCall; rw [hq3] at h; exact h)
     clear hq3
     have HE := hide (show X = (if q3 = true then 13 else 14, overC q3 s) from by
      rw [← HXQ.out]; unfold opC; rw [HD.out]; simp only; rw [if_neg (by decide), if_neg (by rw [HQ.out]; decide), if_neg (by rw [HQ2.out]; decide)]
      cases q3
      ·rw [if_neg (by rw [HQ3.out]; decide)]; rfl
      ·rw [if_pos HQ3.out]; rfl)
     cases q3
     all_goals
      go_wp2_with (first | (go_at_call 39; (with_reducible refine HK.out.mono ?_); rintro e V ⟨rfl, hat, hon⟩; have HTV := hide (HT.out.call hon hat (sfx_over false s)); have r0 := HTV.out.k0; have rl := HTV.out.rl; clear hat hon) | (go_at_call 39; (with_reducible refine (HK2.out _ HTV.out.rd.cur).mono ?_); rintro e V2 ⟨rfl, hat, hon⟩; have HTV2 := hide (HTV.out.call hon hat (sfx_over false s)); have r0 := HTV2.out.k0; have rl := HTV2.out.rl; clear hat hon) | (go_at_call 39; (with_reducible refine (HK3.out _ HTV2.out.rd.cur).mono ?_); rintro e V3 ⟨rfl, hat, hon⟩; have HTV3 := hide (HTV2.out.call hon hat (sfx_over _ s)); clear hat hon))
      go_ret
      rw [HE.out]
      exact ⟨rfl, HTV3.out.rd.cur.moreS (fun b _ h => by rw [HS1.out] at h; exact h.1) HNS.out, HTV3.out.only⟩
end Go.Proofs.YtljglhaeonbfoaaGreatDoor
