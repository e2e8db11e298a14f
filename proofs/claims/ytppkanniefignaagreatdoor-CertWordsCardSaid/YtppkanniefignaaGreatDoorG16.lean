/- law28: walks: the document's words: the number behind a letter, a variable, a place. law28: walks: the document's value, variable, place, kind. law28: walks: the document's variable, place, kind. -/
import Derived.Test.YtppkanniefignaaGreatDoorB28
import Derived.Test.YtppkanniefignaaGreatDoorG7
import Derived.Test.YtppkanniefignaaGreatDoorG32
set_option linter.unusedSimpArgs false
set_option linter.unusedVariables false
namespace Go.Proofs.YtppkanniefignaaGreatDoor
open Go.RowKit
def valE (q : Bool) : List UInt8 → Nat → Nat → Option Nat
 | [], _, acc => some acc
 | b :: l, i, acc => if (digW b && decide (i ≤ 4) && !(decide (i = 2) && q)) = true then valE q l (i + 1) (10 * acc + (b.toNat - 48)) else none
abbrev valD (q : Bool) (i acc : Nat) (l : List UInt8) : Option Nat := valE q l i acc
theorem valD_cons (q : Bool) (i acc : Nat) (b : UInt8) (l : List UInt8) : valD q i acc (b :: l) = if (digW b && decide (i ≤ 4) && !(decide (i = 2) && q)) = true then valD q (i + 1) (10 * acc + (b.toNat - 48)) l else none := rfl
theorem spell_cons (a : Nat) (b : UInt8) (l : List UInt8) : spell a (b :: l) = spell (10 * a + (b.toNat - 48)) l := by conv => lhs; unfold spell
theorem spell_nil (a : Nat) : spell a [] = a := rfl
theorem valD_nil (q : Bool) (i acc : Nat) : valD q i acc [] = some acc := rfl
set_option maxHeartbeats 4000000 in
theorem valD_eq (z : UInt8) (l : List UInt8) : valD (decide (z = 48)) 1 0 (z :: l) = if (decide ((z :: l).length ≤ 4) && (z :: l).all digW && (decide ((z :: l).length = 1) || !((z :: l).head? == some 48))) = true then some (spell 0 (z :: l)) else none := by
 have hz : ((some z : Option UInt8) == some 48) = decide (z = 48) := by
  rw [Bool.eq_iff_iff]; simp
 rw [List.head?_cons, hz]
 clear hz
 generalize decide (z = 48) = q
 rcases l with _ | ⟨b, _ | ⟨c, _ | ⟨d, _ | ⟨e, r⟩⟩⟩⟩ <;> simp only [valD_cons, valD_nil, spell_cons, spell_nil, List.all_cons, List.all_nil, List.length_cons, List.length_nil]
 ·cases digW z <;> simp
 ·cases digW z <;> cases digW b <;> cases q <;> simp
 ·cases digW z <;> cases digW b <;> cases digW c <;> cases q <;> simp
 ·cases digW z <;> cases digW b <;> cases digW c <;> cases digW d <;> cases q <;> simp
 ·have h4 : decide (r.length + 1 + 1 + 1 + 1 + 1 ≤ 4) = false := by simp
  rw [h4]
  cases digW z <;> cases digW b <;> cases digW c <;> cases digW d <;> cases q <;> simp
def valI : Option Nat → Int
 | none => -1
 | some n => n
theorem numW_none {c : UInt8} {most : Nat} {s : ByteArray} (h : s.size < 2) : numW c most s = none := by
 unfold numW
 have := size_list s
 rcases hl : s.data.toList with _ | ⟨x, _ | ⟨y, l⟩⟩
 ·rfl
 ·simp
 ·rw [hl] at this; simp at this; omega
theorem numW_head {c : UInt8} {most : Nat} {s : ByteArray} (h : 2 ≤ s.size) (hc : s.get! 0 ≠ c) : numW c most s = none := by
 have h0 := drop_get (show 0 < s.size by omega)
 rw [List.drop_zero] at h0
 unfold numW
 rw [h0]
 simp [hc]
theorem numW_val {c : UInt8} {most : Nat} {s : ByteArray} (h : 2 ≤ s.size) (hc : s.get! 0 = c) : numW c most s = match valD (decide (s.get! 1 = 48)) 1 0 (s.data.toList.drop 1) with
  | some n => if n < most then some n else none
  | none => none := by
 have h0 := drop_get (show 0 < s.size by omega)
 have h1 := drop_get (show 1 < s.size by omega)
 rw [List.drop_zero] at h0
 rw [show 0 + 1 = 1 from rfl, h1, hc] at h0
 rw [h1]
 generalize List.drop (1 + 1) s.data.toList = t at h0
 generalize s.get! 1 = z at h0
 unfold numW
 rw [h0, valD_eq]
 simp only [beq_self_eq_true, Bool.true_and, List.isEmpty_cons, Bool.not_false]
 generalize (decide ((z :: t).length ≤ 4) && (z :: t).all digW && (decide ((z :: t).length = 1) || !((z :: t).head? == some 48))) = q
 cases q with
 | false => simp
 | true => by_cases hm : spell 0 (z :: t) < most <;> simp [hm]
end Go.Proofs.YtppkanniefignaaGreatDoor
namespace Go.Proofs.YtppkanniefignaaGreatDoor
open Go.RowKit
set_option maxRecDepth 100000 in
set_option maxHeartbeats 8000000 in
theorem value28_any (s : ByteArray) (c most : Nat) (w : World) (hs : s.size ≤ 9223372036854775807) (hc8 : c < 256) (hm : most ≤ 1000) : Calls Tryz.prog 141 #[.string s, .int .u8 c, .int .i64 most] w (Ret (.int .i64 (valI (numW (UInt8.ofNat c) most s))) w) := by
 by_cases h2 : s.size < 2
 ·have HE := hide (numW_none (c := UInt8.ofNat c) (most := most) h2)
  go_enter Tryz.func141, Tryz.ntmps141
  go_wp2_with fail
  go_ret
  exact Ret.i (by rw [HE.out]; rfl)
 have hs2 : 2 ≤ s.size := by omega
 have hx0 := congrArg UInt8.toNat (get_elem (show 0 < s.size by omega))
 have hx1 := congrArg UInt8.toNat (get_elem (show 1 < s.size by omega))
 have h45 := @toNat_eq (s.get! 0) c hc8
 have h48 := @toNat_eq (s.get! 1) 48 (by decide)
 by_cases hc : s.get! 0 = UInt8.ofNat c
 case neg =>
  have HE := hide (numW_head (c := UInt8.ofNat c) (most := most) hs2 hc)
  have hne : (s.get! 0).toNat ≠ c := fun e => hc (h45.2 e)
  obtain ⟨x, hxx⟩ : ∃ x, (s.get! 0).toNat = x := ⟨_, rfl⟩
  rw [hxx] at hx0 hne
  have hb : ((x : Int) != (c : Int)) = true := by simp; omega
  clear hxx hx1 h45 h48 hc hne
  go_enter Tryz.func141, Tryz.ntmps141
  go_wp2_with fail
  go_ret
  exact Ret.i (by rw [HE.out]; rfl)
 have HN := hide (numW_val (c := UInt8.ofNat c) (most := most) hs2 hc)
 have he0 : (s.get! 0).toNat = c := h45.1 hc
 rw [he0] at hx0
 clear h45 hc he0
 obtain ⟨z, hz⟩ : ∃ z, (s.get! 1).toNat = z := ⟨_, rfl⟩
 obtain ⟨q, hq⟩ : ∃ q, decide (s.get! 1 = 48) = q := ⟨_, rfl⟩
 have e48 : (48 : UInt8) = UInt8.ofNat 48 := rfl
 have hzq : ((z : Int) == 48) = q := by
  rw [← hq, Bool.eq_iff_iff]
  simp only [beq_iff_eq, decide_eq_true_eq]
  rw [e48, h48, hz]; omega
 rw [hz] at hx1
 rw [hq] at HN
 clear h48 hz hq e48
 go_enter Tryz.func141, Tryz.ntmps141
 go_wp2_with fail
 go_loop [7, 8] (fun a b => ∃ (k acc : Nat), a = .int .i64 acc ∧ b = .int .i64 k ∧ 1 ≤ k ∧ k ≤ s.size ∧ k ≤ 5 ∧ acc ≤ 9999 ∧ (k ≤ 4 → acc ≤ 999) ∧ (k ≤ 3 → acc ≤ 99) ∧ (k ≤ 2 → acc ≤ 9) ∧ (k ≤ 1 → acc = 0) ∧ valD q 1 0 (s.data.toList.drop 1) = valD q k acc (s.data.toList.drop k)) (fun _ b => s.size - (intOf b).toNat)
 case atStart => exact ⟨1, 0, rfl, rfl, Nat.le_refl _, by omega, by omega, by omega, fun _ => by omega, fun _ => by omega, fun _ => by omega, fun _ => rfl, rfl⟩
 case round =>
  obtain ⟨k, acc, rfl, rfl, hk1, hk, hk5, ha, ha4, ha3, ha2, ha1, hv⟩ := hrel
  have HV := hide hv; clear hv
  by_cases hp : k < s.size
  ·have hx := congrArg UInt8.toNat (get_elem hp)
   have HD := hide (drop_get hp)
   have HC := hide (valD_cons q k acc (s.get! k) (s.data.toList.drop (k + 1)))
   have HG := hide (show digW (s.get! k) = (decide (48 ≤ (s.get! k).toNat) && decide ((s.get! k).toNat ≤ 57)) from rfl)
   obtain ⟨x, hxx⟩ : ∃ x, (s.get! k).toNat = x := ⟨_, rfl⟩
   rw [hxx] at hx HC HG
   have hx255 : x < 256 := by rw [← hxx]; exact UInt8.toNat_lt _
   clear hxx
   by_cases hb : (digW (s.get! k) && decide (k ≤ 4) && !(decide (k = 2) && q)) = true
   ·have HVV := hide (show valD q 1 0 (s.data.toList.drop 1) = valD q (k + 1) (10 * acc + (x - 48)) (s.data.toList.drop (k + 1)) from by rw [HV.out, HD.out, HC.out, if_pos hb])
    simp only [Bool.and_eq_true, HG.out, decide_eq_true_eq, Bool.not_eq_true'] at hb
    obtain ⟨⟨⟨b1, b2⟩, b3⟩, b4⟩ := hb
    have c1 : decide ((x : Int) < 48) = false := by simp; omega
    have c2 : decide ((57 : Int) < x) = false := by simp; omega
    have c3 : decide ((4 : Int) < k) = false := by simp; omega
    clear HV HC HD
    by_cases hk2 : k = 2
    ·have hqf : q = false := by simpa [hk2] using b4
     subst hqf
     have hkb : ((k : Int) == 2) = true := by simp; omega
     clear b4 hk2
     go_wp2_with fail
     go_round
     case rel => exact ⟨k + 1, 10 * acc + (x - 48), by congr 1; omega, by go_num, by omega, by omega, by omega, by omega, by omega, by omega, by omega, by omega, HVV.out⟩
     case measure => simp [intOf]; omega
    ·have hkb : ((k : Int) == 2) = false := by simp; omega
     clear b4 hk2
     go_wp2_with fail
     go_round
     case rel => exact ⟨k + 1, 10 * acc + (x - 48), by congr 1; omega, by go_num, by omega, by omega, by omega, by omega, by omega, by omega, by omega, by omega, HVV.out⟩
     case measure => simp [intOf]; omega
   ·have HVV := hide (show valI (numW (UInt8.ofNat c) most s) = -1 from by rw [HN.out, HV.out, HD.out, HC.out, if_neg hb]; rfl)
    clear HV HC HD HN
    by_cases b1 : 48 ≤ x
    ·by_cases b2 : x ≤ 57
     ·by_cases b3 : k ≤ 4
      ·have hk2 : k = 2 ∧ q = true := by
        simp only [HG.out, b1, b2, b3, decide_true, Bool.and_self, Bool.true_and, Bool.not_eq_true'] at hb
        cases q <;> simp at hb ⊢ <;> omega
       obtain ⟨hk2, rfl⟩ := hk2
       have hkb : ((k : Int) == 2) = true := by simp; omega
       clear hb hk2
       have c1 : decide ((x : Int) < 48) = false := by simp; omega
       have c2 : decide ((57 : Int) < x) = false := by simp; omega
       have c3 : decide ((4 : Int) < k) = false := by simp; omega
       go_wp2_with fail
       go_ret
       exact Ret.i HVV.out.symm
      ·clear hb
       have c1 : decide ((x : Int) < 48) = false := by simp; omega
       have c2 : decide ((57 : Int) < x) = false := by simp; omega
       have c3 : decide ((4 : Int) < k) = true := by simp; omega
       go_wp2_with fail
       go_ret
       exact Ret.i HVV.out.symm
     ·clear hb
      have c1 : decide ((x : Int) < 48) = false := by simp; omega
      have c2 : decide ((57 : Int) < x) = true := by simp; omega
      go_wp2_with fail
      go_ret
      exact Ret.i HVV.out.symm
    ·clear hb
     have c1 : decide ((x : Int) < 48) = true := by simp; omega
     go_wp2_with fail
     go_ret
     exact Ret.i HVV.out.symm
  ·have HD := hide (show s.data.toList.drop k = [] from List.drop_eq_nil_of_le (by have := size_list s; omega))
   have HVV := hide (show numW (UInt8.ofNat c) most s = if acc < most then some acc else none from by rw [HN.out, HV.out, HD.out, valD_nil])
   clear HV HN HD
   by_cases hlm : acc < most
   ·have HVW := hide (show valI (numW (UInt8.ofNat c) most s) = acc from by rw [HVV.out, if_pos hlm]; rfl)
    go_wp2_with fail
    go_ret
    exact Ret.i HVW.out.symm
   ·have HVW := hide (show valI (numW (UInt8.ofNat c) most s) = -1 from by rw [HVV.out, if_neg hlm]; rfl)
    go_wp2_with fail
    go_ret
    exact Ret.i HVW.out.symm
end Go.Proofs.YtppkanniefignaaGreatDoor
namespace Go.Proofs.YtppkanniefignaaGreatDoor
open Go.RowKit
theorem varW_val (s : ByteArray) : varW s = if 0 < valI (numW 118 201 s) then valI (numW 118 201 s) else if 0 ≤ valI (numW 104 64 s) then -1 - valI (numW 104 64 s) else 0 := by
 unfold varW
 rcases h1 : numW 118 201 s with _ | _ | n
 ·rcases h2 : numW 104 64 s with _ | m
  ·simp [valI]
  ·simp [valI]
 ·rcases h2 : numW 104 64 s with _ | m
  ·simp [valI]
  ·simp [valI]
 ·simp [valI]
theorem placeW_val (s : ByteArray) : placeW s = if 0 ≤ valI (numW 114 64 s) then some ⟨false, valI (numW 114 64 s)⟩ else if 0 ≤ valI (numW 115 400 s) then some ⟨true, valI (numW 115 400 s)⟩ else none := by
 unfold placeW
 rcases h1 : numW 114 64 s with _ | n
 ·rcases h2 : numW 115 400 s with _ | m
  ·simp [valI]
  ·simp [valI]
 ·simp [valI]
theorem valI_bd {c : UInt8} {most : Nat} (s : ByteArray) : -1 ≤ valI (numW c most s) ∧ (valI (numW c most s) < most ∨ valI (numW c most s) = -1) := by
 cases h : numW c most s with
 | none => simp [valI]
 | some n => have := (numW_inv h).2; simp [valI]; omega
set_option maxRecDepth 100000 in
set_option maxHeartbeats 4000000 in
theorem variable28_any (s : ByteArray) (w : World) (hs : s.size ≤ 9223372036854775807) : Calls Tryz.prog 91 #[.string s] w (Ret (.int .i64 (varW s)) w) := by
 obtain ⟨a, ha⟩ : ∃ a, valI (numW 118 201 s) = a := ⟨_, rfl⟩
 obtain ⟨b, hb⟩ : ∃ b, valI (numW 104 64 s) = b := ⟨_, rfl⟩
 have HV := hide (show varW s = if 0 < a then a else if 0 ≤ b then -1 - b else 0 from by rw [varW_val, ha, hb])
 have HA := hide (show Calls Tryz.prog 141 #[.string s, .int .u8 118, .int .i64 201] w (Ret (.int .i64 a) w) from ha ▸ value28_any s 118 201 w hs (by decide) (by decide))
 have HB := hide (show Calls Tryz.prog 141 #[.string s, .int .u8 104, .int .i64 64] w (Ret (.int .i64 b) w) from hb ▸ value28_any s 104 64 w hs (by decide) (by decide))
 obtain ⟨ha1, ha2⟩ := ha ▸ valI_bd (c := 118) (most := 201) s
 obtain ⟨hb1, hb2⟩ := hb ▸ valI_bd (c := 104) (most := 64) s
 have ha3 : a ≤ 1000 := by omega
 have hb3 : b ≤ 1000 := by omega
 clear ha hb ha2 hb2
 by_cases h1 : 0 < a
 ·have HE := hide (show varW s = a from by rw [HV.out, if_pos h1])
  go_enter Tryz.func91, Tryz.ntmps91
  go_wp2_with (first | (go_at_call 141; (with_reducible refine HA.out.mono ?_); rintro e _ ⟨rfl, rfl⟩))
  go_ret
  exact Ret.i HE.out.symm
 ·by_cases h2 : 0 ≤ b
  ·have HE := hide (show varW s = -1 - b from by rw [HV.out, if_neg h1, if_pos h2])
   have hwr : IntKind.i64.wrap (-1 - b) = -1 - b := IntWalk.i64_in _ (by omega)
   go_enter Tryz.func91, Tryz.ntmps91
   go_wp2_with (first | (go_at_call 141; (with_reducible refine HA.out.mono ?_); rintro e _ ⟨rfl, rfl⟩) | (go_at_call 141; (with_reducible refine HB.out.mono ?_); rintro e _ ⟨rfl, rfl⟩))
   go_ret
   exact Ret.i HE.out.symm
  ·have HE := hide (show varW s = 0 from by rw [HV.out, if_neg h1, if_neg h2])
   go_enter Tryz.func91, Tryz.ntmps91
   go_wp2_with (first | (go_at_call 141; (with_reducible refine HA.out.mono ?_); rintro e _ ⟨rfl, rfl⟩) | (go_at_call 141; (with_reducible refine HB.out.mono ?_); rintro e _ ⟨rfl, rfl⟩))
   go_ret
   exact Ret.i HE.out.symm
theorem size_loc28 : (Tryz.prog.info? 40).map (·.size) = some 2 := by kernel_rfl
theorem results_loc28 {fn : Func} {p t1 : Tmp} {g : Nat} {a1 a2 : Value} (h : fn.results = #[.cell p 40, .tmp t1]) (tmps : Array Value) (w : World)
  (hp : tmps.getD p undef = .pointer (some ⟨g, 0, none⟩)) (hg : w.heap[g]? = some (.cells #[a1, a2] 40 (0, 0))) : (results fn tmps).run Tryz.prog w = .ok (.tuple #[.agg #[a1, a2], tmps.getD t1 undef]) w := by
 have hp' : tmps[p]?.getD undef = .pointer (some ⟨g, 0, none⟩) := by simpa using hp
 have hl := run_loadVar_row w g _ _ _ (0, 0) _ hg Tryz.underlying40 rfl size_loc28
 simp [results, h, hp', asAddr, hl]
abbrev locV (l : Loc) : Value := .agg #[.bool l.slot, .int .i64 l.n]
set_option maxRecDepth 100000 in
set_option maxHeartbeats 4000000 in
theorem place28_any (s : ByteArray) (w : World) (hs : s.size ≤ 9223372036854775807) : Calls Tryz.prog 94 #[.string s] w (RetX (.tuple #[locV ((placeW s).getD ⟨false, 0⟩), .bool (placeW s).isSome]) w) := by
 obtain ⟨a, ha⟩ : ∃ a, valI (numW 114 64 s) = a := ⟨_, rfl⟩
 obtain ⟨b, hb⟩ : ∃ b, valI (numW 115 400 s) = b := ⟨_, rfl⟩
 have HV := hide (show placeW s = if 0 ≤ a then some ⟨false, a⟩ else if 0 ≤ b then some ⟨true, b⟩ else none from by rw [placeW_val, ha, hb])
 have HA := hide (fun (W : World) => show Calls Tryz.prog 141 #[.string s, .int .u8 114, .int .i64 64] W (Ret (.int .i64 a) W) from ha ▸ value28_any s 114 64 W hs (by decide) (by decide))
 have HB := hide (fun (W : World) => show Calls Tryz.prog 141 #[.string s, .int .u8 115, .int .i64 400] W (Ret (.int .i64 b) W) from hb ▸ value28_any s 115 400 W hs (by decide) (by decide))
 clear ha hb
 by_cases h1 : 0 ≤ a
 ·have HE := hide (show placeW s = some ⟨false, a⟩ from by rw [HV.out, if_pos h1])
  go_enter Tryz.func94, Tryz.ntmps94
  go_wp2_with (first | (go_at_call 141; (with_reducible refine (HA.out _).mono ?_); rintro e _ ⟨rfl, rfl⟩))
  refine bodyPost_ret (results_loc28 Tryz.results94 _ _ rfl (heap_alloc_new w _)) rfl ?_
  rw [HE.out]
  exact ⟨rfl, Below.to_ext ((Below.refl _ _).alloc (Nat.le_refl _) _)⟩
 ·by_cases h2 : 0 ≤ b
  ·have HE := hide (show placeW s = some ⟨true, b⟩ from by rw [HV.out, if_neg h1, if_pos h2])
   go_enter Tryz.func94, Tryz.ntmps94
   go_wp2_with (first | (go_at_call 141; (with_reducible refine (HA.out _).mono ?_); rintro e _ ⟨rfl, rfl⟩) | (go_at_call 141; (with_reducible refine (HB.out _).mono ?_); rintro e _ ⟨rfl, rfl⟩))
   refine bodyPost_ret (results_loc28 Tryz.results94 _ _ rfl (heap_alloc_new w _)) rfl ?_
   rw [HE.out]
   exact ⟨rfl, Below.to_ext ((Below.refl _ _).alloc (Nat.le_refl _) _)⟩
  ·have HE := hide (show placeW s = none from by rw [HV.out, if_neg h1, if_neg h2])
   go_enter Tryz.func94, Tryz.ntmps94
   go_wp2_with (first | (go_at_call 141; (with_reducible refine (HA.out _).mono ?_); rintro e _ ⟨rfl, rfl⟩) | (go_at_call 141; (with_reducible refine (HB.out _).mono ?_); rintro e _ ⟨rfl, rfl⟩))
   refine bodyPost_ret (results_loc28 Tryz.results94 _ _ rfl (heap_alloc_new w _)) rfl ?_
   rw [HE.out]
   exact ⟨rfl, Below.to_ext ((Below.refl _ _).alloc (Nat.le_refl _) _)⟩
def kindT (k : Nat) : ByteArray := (kindsB[k - 1]?).getD ⟨#[]⟩
set_option maxRecDepth 100000 in
set_option maxHeartbeats 4000000 in
theorem kind28_any (k : Nat) (hk1 : 1 ≤ k) (hk4 : k ≤ 4) (w : World) : Calls Tryz.prog 86 #[.int .i64 k] w (RetX (.string (kindT k)) w) := by
 rcases (by omega : k = 1 ∨ k = 2 ∨ k = 3 ∨ k = 4) with rfl | rfl | rfl | rfl
 all_goals
  go_enter Tryz.func86, Tryz.ntmps86
  go_wp2_with fail
  go_ret
  exact ⟨rfl, Below.to_ext ((Below.refl _ _).alloc (Nat.le_refl _) _)⟩
end Go.Proofs.YtppkanniefignaaGreatDoor
