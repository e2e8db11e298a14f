/- law04: walks: the document's variables, parts, instructions, ends: are they right? law04: walks: the document's ends and instructions: are they right? -/
import Derived.Test.YtljglhaeonbfoaaGreatDoorG28
import Derived.Test.YtljglhaeonbfoaaGreatDoorG25
import Derived.Test.YtljglhaeonbfoaaGreatDoorG19
import Derived.BigGuardPart
set_option linter.unusedSimpArgs false
set_option linter.unusedVariables false
namespace Go.Proofs.YtljglhaeonbfoaaGreatDoor
open Go.RowKit
theorem var3_any (n : Int) (w : World) : Calls Tryz.prog 74 #[.int .i64 n] w (Ret (.bool (vOk n)) w) := by
 unfold vOk
 by_cases h : 1 ≤ n
 ·have hd : decide (1 ≤ n) = true := by simpa using h
  go_enter Tryz.func74, Tryz.ntmps74
  go_wp2_with fail
  go_ret
  exact Ret.b (by simp [h])
 ·have hd : decide (1 ≤ n) = false := by simpa using h
  go_enter Tryz.func74, Tryz.ntmps74
  go_wp2_with fail
  go_ret
  exact Ret.b (by simp [h])
def hasS (o : Int) : List UInt8 := if o = 1 then [100, 105] else if 2 ≤ o ∧ o ≤ 10 then [100, 97, 98] else if o = 11 then [100, 97, 105] else if o = 12 then [97, 98, 105] else if o = 13 then [99] else if o = 14 then [100, 97] else []
set_option maxRecDepth 100000 in
set_option maxHeartbeats 4000000 in
theorem has3_any (o : Int) (w : World) : Calls Tryz.prog 124 #[.int .i64 o] w (Ret (.string ⟨(hasS o).toArray⟩) w) := by
 by_cases h1 : o = 1
 ·subst h1
  go_enter Tryz.func124, Tryz.ntmps124
  go_wp2_with fail
  go_ret
  exact ⟨rfl, rfl⟩
 have b1 : (o == 1) = false := by simpa using h1
 by_cases h2 : 2 ≤ o
 ·have c2 : decide (2 ≤ o) = true := by simpa using h2
  by_cases h10 : o ≤ 10
  ·have c10 : decide (o ≤ 10) = true := by simpa using h10
   have HE := hide (show hasS o = [100, 97, 98] from by unfold hasS; rw [if_neg h1, if_pos ⟨h2, h10⟩])
   go_enter Tryz.func124, Tryz.ntmps124
   go_wp2_with fail
   go_ret
   exact ⟨by rw [HE.out]; rfl, rfl⟩
  ·have c10 : decide (o ≤ 10) = false := by simpa using h10
   by_cases h11 : o = 11
   ·subst h11
    go_enter Tryz.func124, Tryz.ntmps124
    go_wp2_with fail
    go_ret
    exact ⟨rfl, rfl⟩
   have b11 : (o == 11) = false := by simpa using h11
   by_cases h12 : o = 12
   ·subst h12
    go_enter Tryz.func124, Tryz.ntmps124
    go_wp2_with fail
    go_ret
    exact ⟨rfl, rfl⟩
   have b12 : (o == 12) = false := by simpa using h12
   by_cases h13 : o = 13
   ·subst h13
    go_enter Tryz.func124, Tryz.ntmps124
    go_wp2_with fail
    go_ret
    exact ⟨rfl, rfl⟩
   have b13 : (o == 13) = false := by simpa using h13
   by_cases h14 : o = 14
   ·subst h14
    go_enter Tryz.func124, Tryz.ntmps124
    go_wp2_with fail
    go_ret
    exact ⟨rfl, rfl⟩
   have b14 : (o == 14) = false := by simpa using h14
   have HE := hide (show hasS o = [] from by unfold hasS; rw [if_neg h1, if_neg (by omega), if_neg h11, if_neg h12, if_neg h13, if_neg h14])
   go_enter Tryz.func124, Tryz.ntmps124
   go_wp2_with fail
   go_ret
   exact ⟨by rw [HE.out]; rfl, rfl⟩
 ·have c2 : decide (2 ≤ o) = false := by simpa using h2
  have b11 : (o == 11) = false := by simp; omega
  have b12 : (o == 12) = false := by simp; omega
  have b13 : (o == 13) = false := by simp; omega
  have b14 : (o == 14) = false := by simp; omega
  have HE := hide (show hasS o = [] from by unfold hasS; rw [if_neg h1, if_neg (by omega), if_neg (by omega), if_neg (by omega), if_neg (by omega), if_neg (by omega)])
  go_enter Tryz.func124, Tryz.ntmps124
  go_wp2_with fail
  go_ret
  exact ⟨by rw [HE.out]; rfl, rfl⟩
theorem text_size (l : List UInt8) : (⟨l.toArray⟩ : ByteArray).size = l.length := by
 show l.toArray.size = _
 simp
theorem text_byte {l : List UInt8} {k : Nat} {c : UInt8} {h : k < (⟨l.toArray⟩ : ByteArray).size} (hc : l[k]? = some c) : (⟨l.toArray⟩ : ByteArray)[k] = c := by
 have hk : k < l.length := by have := text_size l; omega
 rw [List.getElem?_eq_getElem hk] at hc
 exact (Option.some.inj hc)
set_option maxRecDepth 100000 in
set_option maxHeartbeats 4000000 in
theorem in3_any (l : List UInt8) (c : Nat) (hc : c < 256) (hl : l.length ≤ 100) (w : World) : Calls Tryz.prog 126 #[.string ⟨l.toArray⟩, .int .u8 c] w (Ret (.bool (l.contains (UInt8.ofNat c))) w) := by
 obtain ⟨s, hs⟩ : ∃ s : ByteArray, s = ⟨l.toArray⟩ := ⟨_, rfl⟩
 have hz : s.size = l.length := by rw [hs]; exact text_size l
 have HBT := hide (fun (k : Nat) (hk : k < s.size) (x : UInt8) (hx : l[k]? = some x) => show s[k].toNat = x.toNat from by subst hs; rw [text_byte hx])
 rw [← hs]
 clear hs
 obtain ⟨r, hr⟩ : ∃ r, l.contains (UInt8.ofNat c) = r := ⟨_, rfl⟩
 rw [hr]
 have HR := hide hr
 have HZ := hide hz
 have hsz : s.size ≤ 100 := by omega
 clear hr hz
 go_enter Tryz.func126, Tryz.ntmps126
 go_wp2_with fail
 go_loop [5] (fun v => ∃ k : Nat, v = .int .i64 k ∧ k ≤ s.size ∧ r = (l.drop k).contains (UInt8.ofNat c)) (fun v => s.size - (intOf v).toNat)
 case atStart => exact ⟨0, rfl, Nat.zero_le _, HR.out.symm⟩
 case round =>
  obtain ⟨k, rfl, hk, hrk⟩ := hrel
  have HRK := hide hrk
  clear hrk
  by_cases hlt : k < s.size
  ·have ki : (k : Int) < (s.size : Int) := by omega
   obtain ⟨x, hx⟩ : ∃ x, l[k]? = some x := ⟨_, List.getElem?_eq_getElem (by have := HZ.out; omega)⟩
   have HB := hide (HBT.out k hlt x hx)
   have HD := hide (show r = (x == UInt8.ofNat c || (l.drop (k + 1)).contains (UInt8.ofNat c)) from by
    rw [HRK.out, show l.drop k = x :: l.drop (k + 1) from by
     have hkl := (List.getElem?_eq_some_iff.1 hx).1
     rw [List.drop_eq_getElem_cons hkl]
     congr 1
     exact (List.getElem?_eq_some_iff.1 hx).2, List.contains_cons]
    have e : (UInt8.ofNat c == x) = (x == UInt8.ofNat c) := by rw [Bool.eq_iff_iff]; simp only [beq_iff_eq]; exact eq_comm
    rw [e])
   cases q : ((s[k].toNat : Int) == (c : Int)) with
   | true =>
    have HE := hide (show r = true from by
     have h1 : (s[k].toNat : Int) = (c : Int) := beq_iff_eq.1 q
     rw [HB.out] at h1
     have : x = UInt8.ofNat c := UInt8.toNat_inj.1 (by rw [UInt8.toNat_ofNat']; omega)
     rw [HD.out, this]; simp)
    go_wp2_with fail
    go_ret
    exact ⟨by rw [HE.out]; rfl, rfl⟩
   | false =>
    have HE := hide (show r = (l.drop (k + 1)).contains (UInt8.ofNat c) from by
     have h1 : ¬ (s[k].toNat : Int) = (c : Int) := by simpa using q
     rw [HB.out] at h1
     have : ¬ x = UInt8.ofNat c := fun e => h1 (by rw [e, UInt8.toNat_ofNat']; omega)
     rw [HD.out, show (x == UInt8.ofNat c) = false from by simpa using this]; rfl)
    go_wp2_with fail
    go_round
    case rel => exact ⟨k + 1, by go_num, by omega, HE.out⟩
    case measure => simp [intOf]; omega
  ·have ki : ¬ (k : Int) < (s.size : Int) := by omega
   have HE := hide (show r = false from by rw [HRK.out, List.drop_eq_nil_of_le (by have := HZ.out; omega)]; rfl)
   go_wp2_with fail
   go_ret
   exact ⟨by rw [HE.out]; rfl, rfl⟩
theorem hasS_len (o : Int) : (hasS o).length ≤ 100 := by
 unfold hasS
 repeat' split
 all_goals decide
theorem part3_any (l : List UInt8) (c : Nat) (hc : c < 256) (hl : l.length ≤ 100) (n : Int) (w : World) : Calls Tryz.prog 125 #[.string ⟨l.toArray⟩, .int .u8 c, .int .i64 n] w (Ret (.bool (fits04 (l.contains (UInt8.ofNat c)) n)) w) := by
 have HI := hide (in3_any l c hc hl w)
 have HV := hide (var3_any n w)
 obtain ⟨s, hs⟩ : ∃ s : ByteArray, s = ⟨l.toArray⟩ := ⟨_, rfl⟩
 rw [← hs] at HI ⊢
 cases hb : l.contains (UInt8.ofNat c) with
 | true =>
  rw [hb] at HI
  have HE := hide (show fits04 true n = vOk n from rfl)
  generalize vOk n = r at HV HE
  clear hs hb
  go_enter Tryz.func125, Tryz.ntmps125
  go_wp2_with (first | (go_at_call 126; (with_reducible refine HI.out.mono ?_); rintro e w' ⟨rfl, rfl⟩) | (go_at_call 74; (with_reducible refine HV.out.mono ?_); rintro e w' ⟨rfl, rfl⟩))
  go_ret
  exact Ret.b HE.out.symm
 | false =>
  rw [hb] at HI
  clear hs hb HV
  go_enter Tryz.func125, Tryz.ntmps125
  go_wp2_with (go_at_call 126; (with_reducible refine HI.out.mono ?_); rintro e w' ⟨rfl, rfl⟩)
  go_ret
  exact Ret.b rfl
end Go.Proofs.YtljglhaeonbfoaaGreatDoor
namespace Go.Proofs.YtljglhaeonbfoaaGreatDoor
open Go.RowKit
set_option maxRecDepth 100000 in
set_option maxHeartbeats 8000000 in
theorem isTerm3_any (t : Term) (w : World) : Calls Tryz.prog 75 #[tmV t] w (RetX (.bool (termB t)) w) := by
 obtain ⟨k, a, x, y⟩ := t
 obtain ⟨W0, hW0⟩ : ∃ W, w.alloc (.cells #[.int .i64 k, .int .i64 a, .int .i64 x, .int .i64 y] 50) = W := ⟨_, rfl⟩
 obtain ⟨C, hC⟩ : ∃ C, w.heap.size = C := ⟨_, rfl⟩
 have hrow : W0.heap[C]? = some (.cells #[.int .i64 k, .int .i64 a, .int .i64 x, .int .i64 y] 50 (0, 0)) := by rw [← hW0, ← hC]; exact heap_alloc_new w _
 have c0 : W0.cell? ⟨C, 0, none⟩ = some (.int .i64 k) := cell_of_row W0 C _ _ _ (0, 0) hrow
 have c1 : W0.cell? ⟨C, 1, none⟩ = some (.int .i64 a) := cell_of_row W0 C _ _ _ (0, 0) hrow
 have c2 : W0.cell? ⟨C, 2, none⟩ = some (.int .i64 x) := cell_of_row W0 C _ _ _ (0, 0) hrow
 have c3 : W0.cell? ⟨C, 3, none⟩ = some (.int .i64 y) := cell_of_row W0 C _ _ _ (0, 0) hrow
 have cl : C < W0.heap.size := (Array.getElem?_eq_some_iff.1 hrow).1
 have HB0 := hide (show Below w.heap.size w W0 from by rw [← hW0]; exact (Below.refl _ _).alloc (Nat.le_refl _) _)
 have HV := hide (var3_any a W0)
 obtain ⟨ea, hea⟩ : ∃ b, (a == 0) = b := ⟨_, rfl⟩
 obtain ⟨ex, hex⟩ : ∃ b, (x == 0) = b := ⟨_, rfl⟩
 obtain ⟨ey, hey⟩ : ∃ b, (y == 0) = b := ⟨_, rfl⟩
 obtain ⟨vo, hvo⟩ : ∃ b, vOk a = b := ⟨_, rfl⟩
 rw [hvo] at HV
 have HF := hide (show fits04 (a != 0) a = (ea || vo) from by
  unfold fits04
  rw [← hea, ← hvo, bne]
  cases h : (a == 0) <;> simp)
 have hna : (a != 0) = !ea := by rw [bne, hea]
 clear hrow
 by_cases k1 : k = 1
 ·subst k1
  have HE := hide (show termB ⟨1, a, x, y⟩ = (ea && ey) from by unfold termB; rw [if_pos rfl, hea, hey])
  clear hvo
  cases ea
  all_goals
   go_enter Tryz.func75, Tryz.ntmps75
   go_wp2_with fail
   go_ret
   exact RetX.b (by rw [HE.out]; rfl) HB0.out
 have b1 : (k == 1) = false := by simpa using k1
 by_cases k2 : k = 2
 ·subst k2
  have HE := hide (show termB ⟨2, a, x, y⟩ = vo from by unfold termB; rw [if_neg (show ¬ (2 : Int) = 1 by decide), if_pos rfl, hvo])
  clear hvo
  go_enter Tryz.func75, Tryz.ntmps75
  go_wp2_with (go_at_call 74; (with_reducible refine HV.out.mono ?_); rintro e w' ⟨rfl, rfl⟩)
  go_ret
  exact RetX.b HE.out.symm HB0.out
 have b2 : (k == 2) = false := by simpa using k2
 by_cases k3 : k = 3
 ·subst k3
  have HE := hide (show termB ⟨3, a, x, y⟩ = ((ea || vo) && (ex && ey)) from by unfold termB; rw [if_neg (show ¬ (3 : Int) = 1 by decide), if_neg (show ¬ (3 : Int) = 2 by decide), if_pos rfl, HF.out, hex, hey])
  clear hvo
  cases ea with
  | true =>
   go_enter Tryz.func75, Tryz.ntmps75
   go_wp2_with fail
   go_ret
   exact RetX.b (by rw [HE.out]; rfl) HB0.out
  | false =>
   cases vo
   all_goals
    go_enter Tryz.func75, Tryz.ntmps75
    go_wp2_with (go_at_call 74; (with_reducible refine HV.out.mono ?_); rintro e w' ⟨rfl, rfl⟩)
    go_ret
    exact RetX.b (by rw [HE.out]; rfl) HB0.out
 have b3 : (k == 3) = false := by simpa using k3
 by_cases k4 : k = 4
 ·subst k4
  have HE := hide (show termB ⟨4, a, x, y⟩ = (ea && (ex && ey)) from by unfold termB; rw [if_neg (show ¬ (4 : Int) = 1 by decide), if_neg (show ¬ (4 : Int) = 2 by decide), if_neg (show ¬ (4 : Int) = 3 by decide)]; simp only; rw [hea, hex, hey]; simp [Bool.and_assoc])
  clear hvo
  cases ea
  all_goals
   go_enter Tryz.func75, Tryz.ntmps75
   go_wp2_with fail
   go_ret
   exact RetX.b (by rw [HE.out]; rfl) HB0.out
 have b4 : (k == 4) = false := by simpa using k4
 have HE := hide (show termB ⟨k, a, x, y⟩ = false from by unfold termB; rw [if_neg k1, if_neg k2, if_neg k3]; simp only; rw [b4]; rfl)
 clear hvo
 go_enter Tryz.func75, Tryz.ntmps75
 go_wp2_with fail
 go_ret
 exact RetX.b (by rw [HE.out]) HB0.out
set_option maxRecDepth 100000 in
set_option maxHeartbeats 8000000 in
theorem needs3_any (t : Term) (w : World) (h : OkT4 t) (hr : termB t = true) : Calls Tryz.prog 80 #[tmV t] w (fun e w' => ∃ A n c, e = .returned (.slice A n c) ∧ Sl w' (fun b => w.heap.size ≤ b) A n c (if t.a = 0 then [] else [t.a]) ∧ ∃ u, w' = w.ext u) := by
 obtain ⟨W0, hW0⟩ : ∃ W, w.alloc (.cells #[.int .i64 t.kind, .int .i64 t.a, .int .i64 t.to0, .int .i64 t.to1] 50) = W := ⟨_, rfl⟩
 obtain ⟨C, hC⟩ : ∃ C, w.heap.size = C := ⟨_, rfl⟩
 have hrow : W0.heap[C]? = some (.cells #[.int .i64 t.kind, .int .i64 t.a, .int .i64 t.to0, .int .i64 t.to1] 50 (0, 0)) := by rw [← hW0, ← hC]; exact heap_alloc_new w _
 have c0 : W0.cell? ⟨C, 0, none⟩ = some (.int .i64 t.kind) := cell_of_row W0 C _ _ _ (0, 0) hrow
 have c1 : W0.cell? ⟨C, 1, none⟩ = some (.int .i64 t.a) := cell_of_row W0 C _ _ _ (0, 0) hrow
 have c2 : W0.cell? ⟨C, 2, none⟩ = some (.int .i64 t.to0) := cell_of_row W0 C _ _ _ (0, 0) hrow
 have c3 : W0.cell? ⟨C, 3, none⟩ = some (.int .i64 t.to1) := cell_of_row W0 C _ _ _ (0, 0) hrow
 have cl : C < W0.heap.size := (Array.getElem?_eq_some_iff.1 hrow).1
 have HB0 := hide (show Below w.heap.size w W0 from by rw [← hW0]; exact (Below.refl _ _).alloc (Nat.le_refl _) _)
 have HBL := hide (show w.heap.size ≤ W0.heap.size from HB0.out.size)
 have HT := hide (show Calls Tryz.prog 75 #[tmV t] W0 (RetX (.bool true) W0) from hr ▸ isTerm3_any t W0)
 have HI := hide h.2.1
 have HCQ := hide hC
 obtain ⟨l, hl⟩ : ∃ l, (if t.a = 0 then [] else [t.a]) = l := ⟨_, rfl⟩
 rw [hl]
 have HLQ := hide hl
 clear hrow h hr hl
 by_cases ha : t.a = 0
 ·have hb : (t.a == 0) = true := by simpa using ha
  have HA := hide ha
  have hl : l = [] := by rw [← HLQ.out, if_pos ha]
  subst hl
  clear ha HLQ
  go_enter Tryz.func80, Tryz.ntmps80
  go_wp2_with (go_at_call 75; (with_reducible refine HT.out.mono ?_); rintro e _ ⟨rfl, u, rfl⟩)
  go_ret
  exact ⟨none, 0, 0, rfl, Sl.zero_, (HB0.out.ext HBL.out u).to_ext⟩
 ·have hb : (t.a == 0) = false := by simpa using ha
  have HA := hide ha
  have hl : l = [t.a] := by rw [← HLQ.out, if_neg ha]
  subst hl
  clear ha HLQ
  go_enter Tryz.func80, Tryz.ntmps80
  go_wp2_with (go_at_call 75; (with_reducible refine HT.out.mono ?_); rintro e _ ⟨rfl, u, rfl⟩)
  go_ret
  exact ⟨_, 1, 1, rfl, Sl.lit (S := fun _ => False) (us := [.int .i64 t.a]) (by simp [size_ext]) (RepL.single ⟨rfl, HI.out⟩) rfl (by decide) (fun _ h => h.elim) (by have := HBL.out; have := HCQ.out; simp [size_ext]; omega), ((HB0.out.ext HBL.out u).alloc (by have := HBL.out; simp [size_ext]; omega) _).to_ext⟩
end Go.Proofs.YtljglhaeonbfoaaGreatDoor
