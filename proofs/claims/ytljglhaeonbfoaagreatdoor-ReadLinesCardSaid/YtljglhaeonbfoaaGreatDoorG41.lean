/- law04: walks: the document's variables. law04: walks: the document goes over a variable. -/
import Derived.Test.YtljglhaeonbfoaaGreatDoorW4d
import Derived.Test.YtljglhaeonbfoaaGreatDoorG26
import Derived.Test.YtljglhaeonbfoaaGreatDoorG40
import Derived.BigQuiet
set_option linter.unusedSimpArgs false
set_option linter.unusedVariables false
namespace Go.Proofs.YtljglhaeonbfoaaGreatDoor
open Go.RowKit
set_option maxRecDepth 100000 in
set_option maxHeartbeats 8000000 in
theorem dVar_any (w : World) (n : Int) (hn : InI n) (hv : VarsP w) : Calls Tryz.prog 77 #[.int .i64 n] w (RetX (.string (docVar n)) w) := by
 have HIT := hide (itoaP_any n hn w hv)
 have hts := itoa4_sz n hn
 have HD := hide (show docVar n = ⟨#[118]⟩ ++ itoaB n from rfl)
 generalize itoaB n = t at HIT hts HD
 have h1 : (⟨#[118]⟩ : ByteArray).size = 1 := rfl
 have g1 : (⟨#[118]⟩ : ByteArray).size + t.size ≤ 9223372036854775807 := by omega
 clear hv hts h1
 go_enter Tryz.func77, Tryz.ntmps77
 go_wp2_with (first | (go_at_call 33; (with_reducible refine HIT.out.mono ?_); rintro e _ ⟨rfl, u, rfl⟩) | (simp only [run_string_add_sum _ _ _ g1]))
 go_ret
 exact ⟨by rw [HD.out]; rfl, u, rfl⟩
section
variable {w : World} {S : Nat → Prop} {c : Nat} {s : Cur}
theorem vW_empty : vW ⟨#[]⟩ = 0 := by decide +kernel
theorem docVar_key {k : Nat} (h1 : 1 ≤ k) (h2 : k ≤ 200) : docVar (k : Int) = keyB 118 k := by
 have := docVar_vr (v := (k : Int)) (by unfold vOk; simp; omega)
 rw [this]
 show keyB 118 ((k : Int)).toNat = _
 simp
theorem beq_bytes {a b : ByteArray} : (a.toList == b.toList) = decide (a = b) := by
 rw [Bool.eq_iff_iff, beq_iff_eq, decide_eq_true_eq, ByteArray.toList_eq, ByteArray.toList_eq]
 exact ⟨bytes_ext, fun e => by rw [e]⟩
set_option maxRecDepth 100000 in
set_option maxHeartbeats 8000000 in
theorem disVar_any (h : DocAt w S c s) (hv : VarsP w) : Calls Tryz.prog 103 #[.pointer (some ⟨c, 0, none⟩)] w (RetX (.int .i64 (vW (peekC s))) w) := by
 have H := hide h
 have hlt := h.lt
 have hnx := h.next
 have k1 := h.at_.choose_spec.choose_spec.choose_spec.2.1
 clear h
 cases hnx with
 | bad he =>
  have HM := hide (dMore H.out)
  have hm : moreC s = false := by unfold moreC; rw [he]; rfl
  rw [hm] at HM
  clear hm
  have hg : vW (peekC s) = 0 := by unfold peekC; rw [headC_bad' he]; exact vW_empty
  rw [hg]
  clear hg he hv
  go_enter Tryz.func103, Tryz.ntmps103
  go_wp2_with (go_at_call 51; refine HM.out.mono ?_; rintro e w' ⟨rfl, rfl⟩)
  go_ret
  exact RetX.i rfl (by repeat (first | exact Below.refl _ _ | assumption | refine Below.alloc ?_ (by simp [size_ext]; try omega) _ | refine Below.ext ?_ (by simp [size_ext]; try omega) _ | refine Below.drew ?_ | refine Below.setCell ?_ (by simp [size_ext]; try omega) _))
 | none he hw k A k0 =>
  rw [he] at k1
  have HM := hide (dMore H.out)
  have hm : moreC s = false := by unfold moreC; rw [he, hw]; rfl
  rw [hm] at HM
  clear hm
  have hg : vW (peekC s) = 0 := by unfold peekC; rw [headC_nil hw]; exact vW_empty
  rw [hg]
  clear hg he hv
  go_enter Tryz.func103, Tryz.ntmps103
  go_wp2_with (go_at_call 51; refine HM.out.mono ?_; rintro e w' ⟨rfl, rfl⟩)
  go_ret
  exact RetX.i rfl (by repeat (first | exact Below.refl _ _ | assumption | refine Below.alloc ?_ (by simp [size_ext]; try omega) _ | refine Below.ext ?_ (by simp [size_ext]; try omega) _ | refine Below.drew ?_ | refine Below.setCell ?_ (by simp [size_ext]; try omega) _))
 | some x l he hw n k b off k0 hn hnk hn9 hb hcb c0 c1 c2 c3 c4 =>
  rw [he] at k1
  have HM := hide (dMore H.out)
  have hm : moreC s = true := by unfold moreC; rw [he, hw]; rfl
  rw [hm] at HM
  clear hm
  by_cases h1 : x.kind = 1
  ·have hg : peekC s = x.text := by unfold peekC; rw [headC_cons he hw]; exact if_pos h1
   rw [hg]
   rw [h1] at c0
   have HV := hide (fun (k : Nat) (hk : k ≤ 200) (W : World) (hW : Below w.heap.size w W) => dVar_any W (k : Int) (by unfold InI; omega) (hv.below hW hv.v.sz))
   have HCL := hide hlt
   obtain ⟨r, hr⟩ : ∃ r, vW x.text = r := ⟨_, rfl⟩
   rw [hr]
   have HR := hide hr
   clear hg he hw h1 hv hr c2 c3 c4
   go_enter Tryz.func103, Tryz.ntmps103
   go_wp2_with (go_at_call 51; refine HM.out.mono ?_; rintro e w' ⟨rfl, rfl⟩)
   go_loopw [3] (fun v wr => ∃ q : Nat, v = .int .i64 q ∧ 1 ≤ q ∧ q ≤ 201 ∧ (∀ j : Nat, 1 ≤ j → j < q → x.text ≠ keyB 118 j) ∧ ∃ u, wr = w.ext u) (fun v _ => 201 - (intOf v).toNat)
   case atStart => exact ⟨1, rfl, by omega, by omega, fun j h1 h2 => by omega, ext_refl _⟩
   case round =>
    obtain ⟨q, rfl, hq1, hq2, hno, u, rfl⟩ := hrel
    have HNO := hide hno
    clear hno
    by_cases hlt : q ≤ 200
    ·have g0 : (q : Int) ≤ 200 := by omega
     have HC := hide (HV.out q hlt)
     obtain ⟨t, ht⟩ : ∃ t, docVar (q : Int) = t := ⟨_, rfl⟩
     rw [ht] at HC
     have HT := hide (show t = keyB 118 q from by rw [← ht]; exact docVar_key hq1 hlt)
     clear ht
     cases hb : (x.text.toList == t.toList) with
     | true =>
      have HE := hide (show r = (q : Int) from by
       rw [beq_bytes, decide_eq_true_eq, HT.out] at hb
       rw [← HR.out, hb, vW_key hlt])
      go_wp2_with fail
      refine wp_region_ext (by kernel_rfl) (by kernel_rfl) ?_
      repeat (any_goals (first | go_big_quiet_step (((go_at_call 77; with_reducible exact quiet_retx (HC.out _ (by repeat (first | exact Below.refl _ _ | assumption | refine Below.alloc ?_ (by simp [size_ext]; try omega) _ | refine Below.ext ?_ (by simp [size_ext]; try omega) _ | refine Below.drew ?_ | refine Below.setCell ?_ (by simp [size_ext]; try omega) _)))))) | quiet_step (((go_at_call 77; with_reducible exact quiet_retx (HC.out _ (by repeat (first | exact Below.refl _ _ | assumption | refine Below.alloc ?_ (by simp [size_ext]; try omega) _ | refine Below.ext ?_ (by simp [size_ext]; try omega) _ | refine Below.drew ?_ | refine Below.setCell ?_ (by simp [size_ext]; try omega) _))))))))
      refine wpQuiet_nil ?_
      rintro _ ⟨uq, rfl⟩
      go_wp2_with fail
      go_ret
      exact RetX.i HE.out.symm (by repeat (first | exact Below.refl _ _ | assumption | refine Below.alloc ?_ (by simp [size_ext]; try omega) _ | refine Below.ext ?_ (by simp [size_ext]; try omega) _ | refine Below.drew ?_ | refine Below.setCell ?_ (by simp [size_ext]; try omega) _))
     | false =>
      have HN := hide (show ∀ j : Nat, 1 ≤ j → j < q + 1 → x.text ≠ keyB 118 j from fun j h1 h2 => by
       by_cases e : j = q
       ·subst e
        rw [beq_bytes, decide_eq_false_iff_not, HT.out] at hb
        exact hb
       ·exact HNO.out j h1 (by omega))
      go_wp2_with fail
      refine wp_region_ext (by kernel_rfl) (by kernel_rfl) ?_
      repeat (any_goals (first | go_big_quiet_step (((go_at_call 77; with_reducible exact quiet_retx (HC.out _ (by repeat (first | exact Below.refl _ _ | assumption | refine Below.alloc ?_ (by simp [size_ext]; try omega) _ | refine Below.ext ?_ (by simp [size_ext]; try omega) _ | refine Below.drew ?_ | refine Below.setCell ?_ (by simp [size_ext]; try omega) _)))))) | quiet_step (((go_at_call 77; with_reducible exact quiet_retx (HC.out _ (by repeat (first | exact Below.refl _ _ | assumption | refine Below.alloc ?_ (by simp [size_ext]; try omega) _ | refine Below.ext ?_ (by simp [size_ext]; try omega) _ | refine Below.drew ?_ | refine Below.setCell ?_ (by simp [size_ext]; try omega) _))))))))
      refine wpQuiet_nil ?_
      rintro _ ⟨uq, rfl⟩
      go_wp2_with fail
      go_roundw
      case rel => exact ⟨q + 1, by go_num, by omega, by omega, HN.out, Below.to_ext (by repeat (first | exact Below.refl _ _ | assumption | refine Below.alloc ?_ (by simp [size_ext]; try omega) _ | refine Below.ext ?_ (by simp [size_ext]; try omega) _ | refine Below.drew ?_ | refine Below.setCell ?_ (by simp [size_ext]; try omega) _))⟩
      case measure => simp [intOf]; omega
    ·have hq : q = 201 := by omega
     have g0 : ¬ (q : Int) ≤ 200 := by omega
     have HE := hide (show r = 0 from by
      rw [← HR.out]
      by_cases h : vW x.text = 0
      ·exact h
      ·obtain ⟨n, h1, h2, h3, _⟩ := vW_inv h
       exact absurd h3 (HNO.out n h1 (by omega)))
     clear hq
     go_wp2_with fail
     go_ret
     exact RetX.i HE.out.symm (by repeat (first | exact Below.refl _ _ | assumption | refine Below.alloc ?_ (by simp [size_ext]; try omega) _ | refine Below.ext ?_ (by simp [size_ext]; try omega) _ | refine Below.drew ?_ | refine Below.setCell ?_ (by simp [size_ext]; try omega) _))
  ·have hg : vW (peekC s) = 0 := by rw [show peekC s = ⟨#[]⟩ from by unfold peekC; rw [headC_cons he hw]; exact if_neg h1]; exact vW_empty
   rw [hg]
   clear hg he hw hv
   go_enter Tryz.func103, Tryz.ntmps103
   go_wp2_with (go_at_call 51; refine HM.out.mono ?_; rintro e w' ⟨rfl, rfl⟩)
   go_ret
   exact RetX.i rfl (by repeat (first | exact Below.refl _ _ | assumption | refine Below.alloc ?_ (by simp [size_ext]; try omega) _ | refine Below.ext ?_ (by simp [size_ext]; try omega) _ | refine Below.drew ?_ | refine Below.setCell ?_ (by simp [size_ext]; try omega) _))
end
end Go.Proofs.YtljglhaeonbfoaaGreatDoor
namespace Go.Proofs.YtljglhaeonbfoaaGreatDoor
open Go.RowKit
structure Dd4 (w : World) (S : Nat → Prop) (c : Nat) (s : Cur) : Prop where
 cur : DocAt w S c s
 vars : VarsP w
 og : 6 ≤ c
section
variable {w0 w W W' : World} {R M c : Nat} {S : Nat → Prop} {s s' : Cur}
theorem Dd4.call (h : Dd4 w S c s) (hon : Only c w W') (hat : DocAt W' S c s') : Dd4 W' S c s' := ⟨hat, h.vars.only hon h.og, h.og⟩
theorem Dd4.ext (h : Dd4 w S c s) (u : Ext) : Dd4 (w.ext u) S c s := h.call ((Only.refl c w).ext u) (h.cur.ext u)
theorem Dd4.alloc (h : Dd4 w S c s) (o : Obj) : Dd4 (w.alloc o) S c s := h.call ((Only.refl c w).alloc o) (h.cur.below ((Below.refl _ _).alloc (Nat.le_refl _) o))
theorem peek_name (h : vW (peekC s) ≠ 0) : ∃ x l, s.e = 0 ∧ s.ws = x :: l ∧ x.kind = 1 ∧ (nameC s).2 = popC s := by
 have hz : ∀ {p : Prop}, peekC s = ⟨#[]⟩ → p := fun e => absurd (by rw [e]; exact vW_empty) h
 by_cases he : s.e = 0
 ·cases hw : s.ws with
  | nil => exact hz (by unfold peekC; rw [headC_nil hw]; rfl)
  | cons x l =>
   by_cases hk : x.kind = 1
   ·refine ⟨x, l, he, rfl, hk, ?_⟩
    unfold nameC; rw [headC_cons he hw]; exact congrArg Prod.snd (if_pos hk)
   ·exact hz (by unfold peekC; rw [headC_cons he hw]; exact if_neg hk)
 ·exact hz (by unfold peekC; rw [headC_bad he]; rfl)
set_option maxRecDepth 100000 in
set_option maxHeartbeats 8000000 in
theorem dvariable_any (h : Dd4 w S c s) : Calls Tryz.prog 104 #[.pointer (some ⟨c, 0, none⟩)] w (DocP S c w (varC s).2 (.int .i64 (varC s).1)) := by
 have HI := hide (disVar_any h.cur h.vars)
 have he : varC s = if vW (peekC s) = 0 then (0, failC 7 s) else (vW (peekC s), (nameC s).2) := rfl
 rw [he]
 clear he
 by_cases h0 : vW (peekC s) = 0
 ·rw [if_pos h0]
  rw [h0] at HI
  have HF := hide (fun u : Ext => dFail (h.cur.ext u) 7)
  clear h h0
  go_enter Tryz.func104, Tryz.ntmps104
  go_wp2_with (first | (go_at_call 103; (with_reducible refine HI.out.mono ?_); rintro e _ ⟨rfl, u, rfl⟩) | (go_at_call 48; (with_reducible refine (HF.out _).mono ?_); rintro e w1 ⟨rfl, hat, hon⟩))
  go_ret
  exact ⟨rfl, hat, (Only.of_below (Below.of_ext w u (Nat.le_refl _))).trans hon⟩
 ·rw [if_neg h0]
  obtain ⟨x, l, he, hw, hk, hpop⟩ := peek_name h0
  rw [hpop]
  obtain ⟨A, n, k, k0, k1, k2, k3, hs⟩ := h.cur.at_
  have hlt := h.cur.lt
  have hn := hs.nle
  have hn0 : 0 < n := by have := hs.len; rw [hw] at this; simp at this; omega
  obtain ⟨b, off, _, rfl, hbb, _⟩ := at_Word hs hn0
  have hnk := hs.2.1
  have HSL := hide hs
  have H := hide h
  have hf0 := fun u : Ext => (h.cur.ext u).fz 0
  generalize vW (peekC s) = v at HI h0 ⊢
  have hv0 : (v == 0) = false := by simpa using h0
  clear h hs he hw hk hpop k1 k2 k3
  go_enter Tryz.func104, Tryz.ntmps104
  go_wp2_with (go_at_call 103; (with_reducible refine HI.out.mono ?_); rintro e _ ⟨rfl, u, rfl⟩; have hf1 := hf0 u)
  all_goals go_ret
  ·have hn1 : n = 1 := by omega
   subst_vars
   have hl : s.ws.tail = [] := by have := HSL.out.len; cases hw : s.ws with | nil => rfl | cons y l => rw [hw] at this; simp at this; simp [this]
   exact ⟨rfl, (dPop H.out.cur (by rw [hl]; exact Sl.zero_)).ext u, ((Only.refl c w).set rfl _).ext u⟩
  ·exact ⟨rfl, (dPop H.out.cur (HSL.out.tail_ hn0)).ext u, ((Only.refl c w).set rfl _).ext u⟩
end
end Go.Proofs.YtljglhaeonbfoaaGreatDoor
