/- law04: walks: variables up to a line's end. law04: walks: an Op's name. -/
import Derived.Test.YtljglhaeonbfoaaGreatDoorG32
import Derived.Test.YtljglhaeonbfoaaGreatDoorG25
import Derived.Test.YtljglhaeonbfoaaGreatDoorG16
set_option linter.unusedSimpArgs false
set_option linter.unusedVariables false
namespace Go.Proofs.YtljglhaeonbfoaaGreatDoor
open Go.RowKit
theorem hasI_contains (v : Int) : ∀ xs : List Int, hasI v xs = xs.contains v
 | [] => rfl
 | x :: l => by
  have e : (x == v) = (v == x) := by rw [Bool.eq_iff_iff]; simp only [beq_iff_eq]; exact eq_comm
  unfold hasI
  rw [List.contains_cons, hasI_contains v l, e]
theorem varC_in (s : Cur) : 0 ≤ (varC s).1 ∧ (varC s).1 ≤ 200 := by
 unfold varC
 split
 ·show (0 : Int) ≤ 0 ∧ (0 : Int) ≤ 200; decide
 ·exact vW_in _
set_option maxRecDepth 100000 in
set_option maxHeartbeats 16000000 in
theorem some_any (w : World) (S : Nat → Prop) (c : Nat) (s : Cur) (u : Bool) (h : Rd4 w S c s) : Calls Tryz.prog 41 #[rd4 c, .bool u] w (ListP S c w (someC false u ([], s))) := by
 obtain ⟨i0, hi, hz, hz1, hz2⟩ := info_parts info_int
 have HI0 := hide hi; have HZ := hide hz; have HZ1 := hide hz1; have HZ2 := hide hz2
 clear hi hz hz1 hz2
 have HNS := hide h.cur.nS
 obtain ⟨R, hR⟩ : ∃ R, w.heap.size = R := ⟨_, rfl⟩
 obtain ⟨S1, hS1⟩ : ∃ S1 : Nat → Prop, S1 = fun b => S b ∧ b < R := ⟨_, rfl⟩
 obtain ⟨W1, hW1⟩ : ∃ W1, w.alloc (.cells #[.pointer (some ⟨c, 0, none⟩)] 77) = W1 := ⟨_, rfl⟩
 have HT1 := hide (show RA4 w W1 R c S1 s from by rw [hS1, ← hW1, ← hR]; exact RA4.start h)
 have HS1 := hide hS1
 obtain ⟨X, hX⟩ : ∃ X, someC false u ([], s) = X := ⟨_, rfl⟩
 rw [hX]
 have HX := hide hX
 have HRQ := hide hR
 clear h hS1 hX
 go_enter Tryz.func41, Tryz.ntmps41
 go_wp2_with fail
 try rw [hR]
 clear hW1
 go_loopw [4] (fun v wr => ∃ (A : Option Addr) (n k : Nat) (l : List Int) (s' : Cur), v = .slice A n k ∧ l.length = n ∧ n ≤ 8 ∧ OwnL wr (R + 1) 3 (fun _ => False) (.slice A n k) l ∧ RA4 w wr R c S1 s' ∧ someC false u (l, s') = X) (fun _ wr => leftM c wr)
 case atStart => exact ⟨none, 0, 0, [], s, rfl, rfl, by omega, OwnL.nil_ _ _ _ _, HT1.out, HX.out⟩
 case round =>
  obtain ⟨A, n, k, l, s', rfl, hn, h8, ho, ht, hx⟩ := hrel
  have HO := hide ho; have HT := hide ht; have HXQ := hide hx; have HN := hide hn; have H8 := hide h8
  have HLE := hide ht.rd.cur.leftM_
  have HEN := hide (cEnds ht.rd.cur)
  have r0 := ht.k0
  have rl := ht.rl
  clear ho ht hx hn h8 HT1
  cases he : endsC s' with
  | true =>
   rw [he] at HEN
   have HE := hide (show X = (l, s') from by rw [← HXQ.out]; exact someC_stop (if_pos he))
   clear he
   go_wp2_with (first | (go_at_call 92; (with_reducible refine HEN.out.mono ?_); rintro e w' ⟨rfl, rfl⟩))
   go_ret
   rw [HE.out]
   exact ⟨A, n, k, rfl, HO.out.lower28 (by have := HRQ.out; omega), HT.out.rd.cur.moreS (fun b _ h => by rw [HS1.out] at h; exact h.1) HNS.out, HT.out.only⟩
  | false =>
   rw [he] at HEN
   have keep : ∀ {W'}, Only c wr W' → OwnL W' (R + 1) 3 (fun _ => False) (.slice A n k) l := fun hon => HO.out.keep hon.size (fun _ hf => hf.elim) fun g hg => hon.block g (HO.out.below_ g hg).2 (by have := (HO.out.below_ g hg).1; have := HT.out.o1; omega)
   have HKP := hide @keep
   clear keep
   by_cases h9 : n = 8
   ·have hgo : someG false u (l, s') = some (l, failC 3 s') := by
     unfold someG
     rw [if_neg (by simp only; rw [he]; decide), if_pos (by show l.length = 8; have := HN.out; omega)]
     rfl
    have HGO := hide (show someC false u (l, failC 3 s') = X from by rw [← HXQ.out, someC_go hgo])
    have HDEC := hide (show leftC (failC 3 s') < leftC s' from someG_dec _ _ hgo)
    have HF := hide (cFail HT.out.rd.cur 3)
    have hb : ((n : Int) == 8) = true := by simp; omega
    clear hgo he h9
    go_wp2_with (first | (go_at_call 92; (with_reducible refine HEN.out.mono ?_); rintro e w' ⟨rfl, rfl⟩) | (go_at_call 40; (with_reducible refine HF.out.mono ?_); rintro e V ⟨rfl, hat, hon⟩; have HTV := hide (HT.out.call hon hat (sfx_fail 3 s')); have HOV := hide (HKP.out hon); clear hat hon))
    have HLV := hide HTV.out.rd.cur.leftM_
    go_roundw
    case rel => exact ⟨A, n, k, l, failC 3 s', rfl, HN.out, H8.out, HOV.out, HTV.out, HGO.out⟩
    case measure => rw [HLV.out, HLE.out]; exact HDEC.out
   ·have hb : ((n : Int) == 8) = false := by simp; omega
    have hn8 : n < 8 := by have := H8.out; omega
    have HN8 := hide hn8
    have HL8 := hide (show ¬ l.length = 8 from by have := HN.out; omega)
    have HVA := hide (variable_any HT.out.rd.cur HT.out.rd.vars HT.out.rd.wd)
    have HVX := hide (fun u1 : Ext => variable_any (HT.out.rd.cur.ext u1) (HT.out.rd.vars.ext u1) HT.out.rd.wd)
    have HPK := hide (peeked_any HT.out.rd.cur HT.out.rd.vars HT.out.rd.wd)
    have hvi := varC_in s'
    clear h9 hn8
    obtain ⟨b1, hb1⟩ : ∃ b, (u && hasI (vW (peekC s')) l) = b := ⟨_, rfl⟩
    cases b1 with
    | true =>
     have hu : u = true := by cases u <;> simp at hb1 ⊢
     subst hu
     have hgo : someG false true (l, s') = some (l, failC 7 s') := by
      unfold someG
      rw [if_neg (by simp only; rw [he]; decide), if_neg HL8.out, if_pos ⟨rfl, by rw [← hasI_contains]; simpa using hb1⟩]
      rfl
     have HGO := hide (show someC false true (l, failC 7 s') = X from by rw [← HXQ.out, someC_go hgo])
     have HDEC := hide (show leftC (failC 7 s') < leftC s' from someG_dec _ _ hgo)
     generalize vW (peekC s') = pv at HPK hb1
     have HCO := hide (fun (W : World) (S : Nat → Prop) (h : Sl W S A n k l) => show Calls Tryz.prog 93 #[.slice A n k, .int .i64 pv] W (Ret (.bool true) W) from by have h := contains5_any W S A n k l pv h; rw [show hasI pv l = true by simpa using hb1] at h; exact h)
     have HF := hide (fun u1 : Ext => cFail (HT.out.rd.cur.ext u1) 7)
     clear hgo he hb1 HVA HVX hvi
     go_wp2_with (first | (go_at_call 92; (with_reducible refine HEN.out.mono ?_); rintro e w' ⟨rfl, rfl⟩) | (go_at_call 94; (with_reducible refine HPK.out.mono ?_); rintro e w' ⟨rfl, u1, rfl⟩) | (go_at_call 93; (with_reducible refine (HCO.out _ (fun b => R < b) ((HO.out.ext _).sl fun b _ h => by rcases h with h | h; exact h.elim; show R < b; omega)).mono ?_); rintro e w' ⟨rfl, rfl⟩) | (go_at_call 40; (with_reducible refine (HF.out _).mono ?_); rintro e V ⟨rfl, hat, hon⟩; have HTV := hide ((HT.out.ext u1).call hon hat (sfx_fail 7 s')); have HOV := hide (HKP.out (((Only.refl c wr).ext u1).trans hon)); clear hat hon))
     have HLV := hide HTV.out.rd.cur.leftM_
     go_roundw
     case rel => exact ⟨A, n, k, l, failC 7 s', rfl, HN.out, H8.out, HOV.out, HTV.out, HGO.out⟩
     case measure => rw [HLV.out, HLE.out]; exact HDEC.out
    | false =>
     have hgo : someG false u (l, s') = some (l ++ [(varC s').1], (varC s').2) := by
      unfold someG
      rw [if_neg (by simp only; rw [he]; decide), if_neg HL8.out, if_neg (by rintro ⟨rfl, h2⟩; rw [← hasI_contains] at h2; simp only at h2; rw [h2] at hb1; cases hb1)]
     have HGO := hide (show someC false u (l ++ [(varC s').1], (varC s').2) = X from by rw [← HXQ.out, someC_go hgo])
     have HDEC := hide (show leftC (varC s').2 < leftC s' from someG_dec _ _ hgo)
     have HSF := hide (sfx_var s')
     clear hgo he
     generalize varC s' = q at HGO HDEC HSF HVA HVX hvi
     obtain ⟨y, t⟩ := q
     simp only at HGO HDEC HSF HVA HVX hvi
     generalize vW (peekC s') = pv at HPK hb1
     have hiy : InI y := by unfold InI; omega
     have HIY := hide hiy
     have HLN := hide (show l.length + 1 ≤ 8 from by have := HN.out; have := HN8.out; omega)
     clear hiy hvi
     cases u with
     | false =>
      clear HPK hb1
      go_wp2_with (first | (go_at_call 92; (with_reducible refine HEN.out.mono ?_); rintro e w' ⟨rfl, rfl⟩) | (go_at_call 95; (with_reducible refine HVA.out.mono ?_); rintro e V ⟨rfl, hat, hon⟩; have HTV := hide (HT.out.call hon hat HSF.out); have HOV := hide (HKP.out hon); clear hat hon) | (at_builtin; refine wpList_push (α := Int) V [.int .i64 y] 3 rfl (.tmp 9) (.tmp 12) 22 rfl (R + 1) 3 i0 _ 8 Tryz.underlying22 HI0.out HZ.out HZ1.out HZ2.out rfl (by decide) (fun _ => False) (fun _ => False) (.slice A n k) l y rfl HOV.out V.heap.size rfl rfl ⟨rfl, HIY.out⟩ (fun _ h => h) (fun _ _ h => h) (fun _ h => h.elim) (by have := HLN.out; omega) (by have := HLN.out; omega) (by have := HTV.out.rl; omega) ?_; intro v' W2 ho1 hgr h5; have HO1 := hide ho1; have HTG := hide ((HTV.out.alloc (.cells #[.int .i64 y] 3)).grown hgr (fun g e => by have := (HOV.out.below_ g e).1; omega)); clear ho1 hgr h5))
      obtain ⟨A', k', rfl⟩ := HO1.out.form
      have hl1 : (l ++ [y]).length = n + 1 := by rw [List.length_append, HN.out]; rfl
      rw [hl1] at HO1 ⊢
      have HLG := hide HTG.out.rd.cur.leftM_
      go_roundw
      case rel => exact ⟨A', n + 1, k', l ++ [y], t, rfl, hl1, by have := HN8.out; omega, HO1.out, HTG.out, HGO.out⟩
      case measure => rw [HLG.out, HLE.out]; exact HDEC.out
     | true =>
      have HVA := hide (fun u1 : Ext => HVX.out u1)
      have hbb : hasI pv l = false := by simpa using hb1
      have HCO := hide (fun (W : World) (S : Nat → Prop) (h : Sl W S A n k l) => show Calls Tryz.prog 93 #[.slice A n k, .int .i64 pv] W (Ret (.bool false) W) from by have h := contains5_any W S A n k l pv h; rw [hbb] at h; exact h)
      clear hb1 hbb
      go_wp2_with (first | (go_at_call 92; (with_reducible refine HEN.out.mono ?_); rintro e w' ⟨rfl, rfl⟩) | (go_at_call 94; (with_reducible refine HPK.out.mono ?_); rintro e w' ⟨rfl, u1, rfl⟩) | (go_at_call 93; (with_reducible refine (HCO.out _ (fun b => R < b) ((HO.out.ext _).sl fun b _ h => by rcases h with h | h; exact h.elim; show R < b; omega)).mono ?_); rintro e w' ⟨rfl, rfl⟩) | (go_at_call 95; (with_reducible refine (HVA.out _).mono ?_); rintro e V ⟨rfl, hat, hon⟩; have HTV := hide ((HT.out.ext u1).call hon hat HSF.out); have HOV := hide (HKP.out (((Only.refl c wr).ext u1).trans hon)); clear hat hon) | (at_builtin; refine wpList_push (α := Int) V [.int .i64 y] 3 rfl (.tmp 9) (.tmp 12) 22 rfl (R + 1) 3 i0 _ 8 Tryz.underlying22 HI0.out HZ.out HZ1.out HZ2.out rfl (by decide) (fun _ => False) (fun _ => False) (.slice A n k) l y rfl HOV.out V.heap.size rfl rfl ⟨rfl, HIY.out⟩ (fun _ h => h) (fun _ _ h => h) (fun _ h => h.elim) (by have := HLN.out; omega) (by have := HLN.out; omega) (by have := HTV.out.rl; omega) ?_; intro v' W2 ho1 hgr h5; have HO1 := hide ho1; have HTG := hide ((HTV.out.alloc (.cells #[.int .i64 y] 3)).grown hgr (fun g e => by have := (HOV.out.below_ g e).1; omega)); clear ho1 hgr h5))
      obtain ⟨A', k', rfl⟩ := HO1.out.form
      have hl1 : (l ++ [y]).length = n + 1 := by rw [List.length_append, HN.out]; rfl
      rw [hl1] at HO1 ⊢
      have HLG := hide HTG.out.rd.cur.leftM_
      go_roundw
      case rel => exact ⟨A', n + 1, k', l ++ [y], t, rfl, hl1, by have := HN8.out; omega, HO1.out, HTG.out, HGO.out⟩
      case measure => rw [HLG.out, HLE.out]; exact HDEC.out
end Go.Proofs.YtljglhaeonbfoaaGreatDoor
namespace Go.Proofs.YtljglhaeonbfoaaGreatDoor
open Go.RowKit
theorem named_any (w : World) : Calls Tryz.prog 72 #[] w (fun e w' => ∃ A, e = .returned (.slice A 9 9) ∧ Sl w' (fun b => w.heap.size ≤ b) A 9 9 opsB ∧ ∃ u, w' = w.ext u) := by
 go_enter Tryz.func72, Tryz.ntmps72
 go_wp2_with fail
 go_ret
 refine ⟨_, rfl, Sl.lit (S := fun _ => False) (us := opsB.map Value.string) rfl ?_ rfl (by decide) (fun _ h => h.elim) (Nat.le_refl _), Below.to_ext ((Below.refl _ _).alloc (Nat.le_refl _) _)⟩
 have key : ∀ l : List ByteArray, (∀ t ∈ l, t.size ≤ maxLen) → RepL w (fun _ => False) l (l.map Value.string) := by
  intro l
  induction l with
  | nil => intro _; rfl
  | cons x l ih => intro h; exact ⟨[.string x], l.map Value.string, rfl, ⟨rfl, h x List.mem_cons_self⟩, ih fun t ht => h t (List.mem_cons_of_mem _ ht)⟩
 refine key _ ?_
 intro t ht
 simp only [opsB, List.mem_cons, List.not_mem_nil, or_false] at ht
 rcases ht with rfl | rfl | rfl | rfl | rfl | rfl | rfl | rfl | rfl <;> (unfold maxLen; decide)
theorem kindC_cons4 (t : ByteArray) (l : List ByteArray) (k : Nat) (s : Cur) : kindC (t :: l) k s = if isC (.nm t) s = true then (k, popC s) else kindC l (k + 1) s := rfl
set_option maxRecDepth 100000 in
set_option maxHeartbeats 16000000 in
theorem op_any (w : World) (S : Nat → Prop) (c : Nat) (s : Cur) (h : Rd4 w S c s) : Calls Tryz.prog 145 #[rd4 c] w (NumP S c w (opC s)) := by
 have HNS := hide h.cur.nS
 obtain ⟨R, hR⟩ : ∃ R, w.heap.size = R := ⟨_, rfl⟩
 obtain ⟨S1, hS1⟩ : ∃ S1 : Nat → Prop, S1 = fun b => S b ∧ b < R := ⟨_, rfl⟩
 obtain ⟨W1, hW1⟩ : ∃ W1, w.alloc (.cells #[.pointer (some ⟨c, 0, none⟩)] 77) = W1 := ⟨_, rfl⟩
 have HT1 := hide (show RA4 w W1 R c S1 s from by rw [hS1, ← hW1, ← hR]; exact RA4.start h)
 have HS1 := hide hS1
 have HSW := hide (show R < W1.heap.size from HT1.out.rl)
 obtain ⟨X, hX⟩ : ∃ X, opC s = X := ⟨_, rfl⟩
 rw [hX]
 have HXQ := hide hX
 clear h hS1 hX
 go_enter Tryz.func145, Tryz.ntmps145
 go_wp2_with (first | (go_at_call 72; (with_reducible refine (named_any _).mono ?_); rintro e V1 ⟨A1, rfl, hks, u1, hV1⟩; have HT2 := hide (show RA4 w V1 R c S1 s from by rw [hV1]; exact HT1.out.ext u1); have HKS := hide (hks.more fun b _ hb => show c < b from by have := HT1.out.o1; have := HSW.out; have hb : W1.heap.size ≤ b := hb; omega); clear hV1 hks))
 try rw [hR]
 clear hW1 HT1
 go_loopw [7] (fun i wr => ∃ k : Nat, i = .int .i64 k ∧ k ≤ 9 ∧ RA4 w wr R c S1 s ∧ Sl wr (fun b => c < b) A1 9 9 opsB ∧ kindC opsB 2 s = kindC (opsB.drop k) (2 + k) s) (fun i _ => 9 - (intOf i).toNat)
 case atStart => exact ⟨0, rfl, by omega, HT2.out, HKS.out, rfl⟩
 case round =>
  obtain ⟨k, rfl, hk, ht, hks, hkk⟩ := hrel
  have HT := hide ht; have HKS := hide hks; have HKK := hide hkk
  clear ht hks hkk HT2
  have r0 := HT.out.k0
  have rl := HT.out.rl
  by_cases hlt : k < 9
  ·obtain ⟨b, off, x, rfl, hb, _, hx, _, c0⟩ := at_str HKS.out hlt
   have hki : (k : Int) < 9 := by omega
   have HK := hide (cKey HT.out.rd.cur x)
   have HD := hide (show kindC opsB 2 s = if isC (.nm x) s = true then (2 + k, popC s) else kindC (opsB.drop (k + 1)) (2 + (k + 1)) s from by rw [HKK.out, drop_at hx, kindC_cons4]; rfl)
   clear hx
   obtain ⟨q, hq⟩ : ∃ q, isC (.nm x) s = q := ⟨_, rfl⟩
   rw [hq] at HK HD
   clear hq
   cases q with
   | true =>
    have HE := hide (show X = (2 + (k : Int), popC s) from by
     rw [← HXQ.out]
     unfold opC
     rw [HD.out]
     simp only [if_true]
     rw [if_pos (by omega)]
     simp)
    have hw : IntKind.i64.wrap (2 + (k : Int)) = 2 + (k : Int) := IntWalk.i64_in _ (by omega)
    go_wp2_with (first | (go_at_call 39; (with_reducible refine HK.out.mono ?_); rintro e V ⟨rfl, hat, hon⟩; have HTV := hide (HT.out.call hon hat (sfx_over true s)); clear hat hon))
    go_ret
    rw [HE.out]
    exact ⟨rfl, HTV.out.rd.cur.moreS (fun b _ h => by rw [HS1.out] at h; exact h.1) HNS.out, HTV.out.only⟩
   | false =>
    have HD1 := hide (show kindC opsB 2 s = kindC (opsB.drop (k + 1)) (2 + (k + 1)) s from by rw [HD.out]; rfl)
    go_wp2_with (first | (go_at_call 39; (with_reducible refine HK.out.mono ?_); rintro e V ⟨rfl, hat, hon⟩; have HTV := hide (HT.out.call hon hat (sfx_over false s)); have HKV := hide (hon.sl HKS.out (show ¬ c < c by omega)); clear hat hon))
    go_roundw
    case rel => exact ⟨k + 1, by go_num, by omega, HTV.out, HKV.out, HD1.out⟩
    case measure => simp [intOf]; omega
  ·have hk9 : k = 9 := by omega
   have HD := hide (show kindC opsB 2 s = (0, s) from by rw [HKK.out, hk9]; rfl)
   have hki : ¬ (k : Int) < 9 := by omega
   clear hk9 HKK
   obtain ⟨q, hq⟩ : ∃ q, isC (.nm tConst) s = q := ⟨_, rfl⟩
   have HQ := hide hq
   have HK := hide (show Calls Tryz.prog 39 #[.pointer (some ⟨c, 0, none⟩), .string ⟨#[99, 111, 110, 115, 116]⟩] wr (CurP S1 c wr (overC q s) (.bool q)) from by have h := cKey HT.out.rd.cur tConst; rw [hq] at h; exact h)
   clear hq
   cases q with
   | true =>
    have HE := hide (show X = (1, popC s) from by
     rw [← HXQ.out]; unfold opC; rw [HD.out]; simp only; rw [if_neg (by decide), if_pos HQ.out])
    go_wp2_with (first | (go_at_call 39; (with_reducible refine HK.out.mono ?_); rintro e V ⟨rfl, hat, hon⟩; have HTV := hide (HT.out.call hon hat (sfx_over true s)); clear hat hon))
    go_ret
    rw [HE.out]
    exact ⟨rfl, HTV.out.rd.cur.moreS (fun b _ h => by rw [HS1.out] at h; exact h.1) HNS.out, HTV.out.only⟩
   | false =>
    obtain ⟨q2, hq2⟩ : ∃ q, isC (.nm tLoad) s = q := ⟨_, rfl⟩
    have HQ2 := hide hq2
    have HK2 := hide (fun (W : World) (h : CurAt W S1 c s) => show Calls Tryz.prog 39 #[.pointer (some ⟨c, 0, none⟩), .string ⟨#[108, 111, 97, 100]⟩] W (CurP S1 c W (overC q2 s) (.bool q2)) from by have h := cKey h tLoad; rw [hq2] at h; exact h)
    clear hq2
    cases q2 with
    | true =>
     have HE := hide (show X = (11, popC s) from by
      rw [← HXQ.out]; unfold opC; rw [HD.out]; simp only; rw [if_neg (by decide), if_neg (by rw [HQ.out]; decide), if_pos HQ2.out])
     go_wp2_with (first | (go_at_call 39; (with_reducible refine HK.out.mono ?_); rintro e V ⟨rfl, hat, hon⟩; have HTV := hide (HT.out.call hon hat (sfx_over false s)); have r0 := HTV.out.k0; have rl := HTV.out.rl; clear hat hon) | (go_at_call 39; (with_reducible refine (HK2.out _ HTV.out.rd.cur).mono ?_); rintro e V2 ⟨rfl, hat, hon⟩; have HTV2 := hide (HTV.out.call hon hat (sfx_over true s)); clear hat hon))
     go_ret
     rw [HE.out]
     exact ⟨rfl, HTV2.out.rd.cur.moreS (fun b _ h => by rw [HS1.out] at h; exact h.1) HNS.out, HTV2.out.only⟩
    | false =>
     obtain ⟨q3, hq3⟩ : ∃ q, isC (.nm tCall) s = q := ⟨_, rfl⟩
     have HQ3 := hide hq3
     have HK3 := hide (fun (W : World) (h : CurAt W S1 c s) => show Calls Tryz.prog 39 #[.pointer (some ⟨c, 0, none⟩), .string ⟨#[99, 97, 108, 108]⟩] W (CurP S1 c W (overC q3 s) (.bool q3)) from by have h := cKey h tCall; rw [hq3] at h; exact h)
     clear hq3
     have HE := hide (show X = (if q3 = true then 13 else 14, overC q3 s) from by
      rw [← HXQ.out]; unfold opC; rw [HD.out]; simp only; rw [if_neg (by decide), if_neg (by rw [HQ.out]; decide), if_neg (by rw [HQ2.out]; decide)]
      cases q3
      ·rw [if_neg (by rw [HQ3.out]; decide)]; rfl
      ·rw [if_pos HQ3.out]; rfl)
     cases q3
     all_goals
      go_wp2_with (first | (go_at_call 39; (with_reducible refine HK.out.mono ?_); rintro e V ⟨rfl, hat, hon⟩; have HTV := hide (HT.out.call hon hat (sfx_over false s)); have r0 := HTV.out.k0; have rl := HTV.out.rl; clear hat hon) | (go_at_call 39; (with_reducible refine (HK2.out _ HTV.out.rd.cur).mono ?_); rintro e V2 ⟨rfl, hat, hon⟩; have HTV2 := hide (HTV.out.call hon hat (sfx_over false s)); have r0 := HTV2.out.k0; have rl := HTV2.out.rl; clear hat hon) | (go_at_call 39; (with_reducible refine (HK3.out _ HTV2.out.rd.cur).mono ?_); rintro e V3 ⟨rfl, hat, hon⟩; have HTV3 := hide (HTV2.out.call hon hat (sfx_over _ s)); clear hat hon))
      go_ret
      rw [HE.out]
      exact ⟨rfl, HTV3.out.rd.cur.moreS (fun b _ h => by rw [HS1.out] at h; exact h.1) HNS.out, HTV3.out.only⟩
end Go.Proofs.YtljglhaeonbfoaaGreatDoor
