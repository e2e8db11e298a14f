/- law04: walks: ReadLines, but for 'many'. Printed by gen_d4n.py. law04: plain: a text with spaces behind it. law04: walks: ReadLines' many: a small number's digits; a row of bytes. law04: walks: ReadLines' many. -/
import Derived.Test.YtljglhaeonbfoaaGreatDoorG46
import Derived.Test.YtljglhaeonbfoaaGreatDoorG26
import Derived.BigQuiet
import Derived.Test.YtljglhaeonbfoaaGreatDoorG19
import Derived.Test.YtljglhaeonbfoaaGreatDoorG15
import Derived.Test.YtljglhaeonbfoaaGreatDoorG2
import Derived.Laws.IdiomStrings
import Derived.Lib.LazyBuf
import Derived.Deep.OwnRows
set_option linter.unusedSimpArgs false
set_option linter.unusedVariables false
namespace Go.Proofs.YtljglhaeonbfoaaGreatDoor
open Go.RowKit
def lines4 : List ByteArray := [⟨#[118, 49, 32, 226, 134, 144, 32, 99, 111, 110, 115, 116, 32, 45, 53]⟩, ⟨#[118, 50, 32, 226, 134, 144, 32, 97, 100, 100, 32, 118, 49, 32, 118, 51]⟩, ⟨#[118, 49, 32, 226, 134, 144, 32, 115, 97, 109, 101, 32, 118, 50, 32, 118, 50]⟩, ⟨#[118, 49, 32, 226, 134, 144, 32, 108, 111, 97, 100, 32, 118, 50, 32, 55]⟩, ⟨#[115, 116, 111, 114, 101, 32, 118, 49, 32, 45, 51, 32, 118, 50]⟩, ⟨#[118, 49, 32, 226, 134, 144, 32, 99, 97, 108, 108, 32, 57, 57, 32, 118, 49, 32, 118, 50]⟩, ⟨#[99, 97, 108, 108, 32, 48]⟩, ⟨#[118, 49, 32, 226, 134, 144, 32, 118, 50, 48, 48]⟩, ⟨#[226, 134, 146, 32, 49]⟩, ⟨#[118, 49, 32, 226, 134, 146, 32, 48, 32, 54, 51]⟩, ⟨#[114, 101, 116, 117, 114, 110, 32, 118, 49]⟩, ⟨#[114, 101, 116, 117, 114, 110]⟩, ⟨#[116, 114, 97, 112]⟩]
def words4 : List ByteArray := [⟨#[]⟩, ⟨#[118, 48]⟩, ⟨#[118, 50, 48, 49]⟩, ⟨#[118, 48, 49]⟩, ⟨#[120]⟩, ⟨#[226, 134, 144]⟩, ⟨#[226, 134, 146]⟩, ⟨#[53]⟩, ⟨#[45, 49]⟩, ⟨#[54, 52]⟩, ⟨#[97, 100, 100]⟩, ⟨#[99, 97, 108, 108]⟩, ⟨#[98, 108, 111, 99, 107]⟩, ⟨#[10]⟩, ⟨#[59, 32, 120, 10]⟩, ⟨#[49, 48, 57, 57, 53, 49, 49, 54, 50, 55, 55, 55, 55]⟩, ⟨#[118, 49, 32, 118, 49]⟩]
def heads4 : List ByteArray := [⟨#[]⟩, ⟨#[102, 117, 110]⟩, ⟨#[102, 117, 110, 32, 118, 49, 32, 118, 50, 32, 118, 49]⟩, ⟨#[102, 117, 110, 32, 118, 49, 32, 120]⟩, ⟨#[102, 117, 110, 32, 49]⟩, ⟨#[102, 117, 110, 32, 118, 49, 32, 118, 50, 32, 118, 51, 32, 118, 52, 32, 118, 53, 32, 118, 54, 32, 118, 55, 32, 118, 56]⟩, ⟨#[102, 117, 110, 32, 118, 49, 32, 118, 50, 32, 118, 51, 32, 118, 52, 32, 118, 53, 32, 118, 54, 32, 118, 55, 32, 118, 56, 32, 118, 57]⟩, ⟨#[102, 117, 110, 32, 118, 49, 32, 118, 50, 32, 118, 51, 32, 118, 52, 32, 118, 53, 32, 118, 54, 32, 118, 55, 32, 118, 56, 32, 120]⟩, ⟨#[102, 117, 110, 32, 98, 108, 111, 99, 107, 32, 48]⟩, ⟨#[102, 117, 110, 32, 118, 49, 10, 10, 59, 10]⟩, ⟨#[103, 117, 110]⟩, ⟨#[102, 117, 110, 32, 226, 134, 144, 32, 118, 49]⟩]
def blocks4 : List ByteArray := [⟨#[]⟩, ⟨#[98, 108, 111, 99, 107, 32, 48, 10, 116, 114, 97, 112]⟩, ⟨#[98, 108, 111, 99, 107, 32, 49, 10, 116, 114, 97, 112]⟩, ⟨#[98, 108, 111, 99, 107, 32, 45, 49, 10, 116, 114, 97, 112]⟩, ⟨#[98, 108, 111, 99, 107, 32, 54, 52, 10, 116, 114, 97, 112]⟩, ⟨#[98, 108, 111, 99, 107, 10, 48, 10, 116, 114, 97, 112]⟩, ⟨#[98, 108, 111, 99, 107, 32, 48, 32, 116, 114, 97, 112]⟩, ⟨#[98, 108, 111, 99, 107, 32, 48, 10]⟩, ⟨#[98, 108, 111, 99, 107, 32, 48, 10, 116, 114, 97, 112, 10, 98, 108, 111, 99, 107, 32, 48, 10, 116, 114, 97, 112]⟩, ⟨#[98, 108, 111, 99, 107, 32, 48, 10, 116, 114, 97, 112, 10, 116, 114, 97, 112]⟩, ⟨#[98, 108, 111, 99, 107, 32, 48, 10, 116, 114, 97, 112, 10, 98, 108, 111, 99, 107, 32, 49, 10, 114, 101, 116, 117, 114, 110, 32, 118, 49, 32, 118, 50]⟩, ⟨#[98, 108, 111, 99, 107, 32, 48, 10, 99, 97, 108, 108, 32, 53, 32, 118, 49, 32, 118, 50, 32, 118, 51, 32, 118, 52, 32, 118, 53, 32, 118, 54, 32, 118, 55, 32, 118, 56, 10, 116, 114, 97, 112]⟩, ⟨#[98, 108, 111, 99, 107, 32, 48, 10, 99, 97, 108, 108, 32, 53, 32, 118, 49, 32, 118, 50, 32, 118, 51, 32, 118, 52, 32, 118, 53, 32, 118, 54, 32, 118, 55, 32, 118, 56, 32, 118, 57, 10, 116, 114, 97, 112]⟩]
theorem texts4 (w : World) (l : List ByteArray) (n : Nat) (hn : l.length = n) (hl : ∀ t ∈ l, t.size ≤ 64) (hm : n ≤ 64) : Sl (w.alloc (.cells (l.map Value.string).toArray 9)) (fun b => b = w.heap.size) (some ⟨w.heap.size, 0, none⟩) n n l := by
 subst hn
 refine Sl.lit (S := fun _ => False) (us := l.map Value.string) rfl ?_ (by simp [Rep.size]) (by omega) (fun _ h => h.elim) rfl
 have key : ∀ l : List ByteArray, (∀ t ∈ l, t.size ≤ 64) → RepL w (fun _ => False) l (l.map Value.string) := by
  intro l
  induction l with
  | nil => intro _; rfl
  | cons x l ih => intro h; exact ⟨[.string x], l.map Value.string, rfl, ⟨rfl, Nat.le_trans (h x List.mem_cons_self) (by decide)⟩, ih fun t ht => h t (List.mem_cons_of_mem _ ht)⟩
 exact key l hl
theorem short4 : ∀ t ∈ lines4 ++ words4 ++ heads4 ++ blocks4, t.size ≤ 64 := by decide
theorem at_text4 {W : World} {S : Nat → Prop} {g n : Nat} {l : List ByteArray} (h : Sl W S (some ⟨g, 0, none⟩) n n l) (hl : ∀ t ∈ l, t.size ≤ 64) {k : Nat} (hk : k < n) : ∃ t : ByteArray, t.size ≤ 64 ∧ g < W.heap.size ∧ W.cell? ⟨g, k, none⟩ = some (.string t) := by
 obtain ⟨b, off, x, e, hb, _, hx, _, c0⟩ := at_str h hk
 injection e with e
 injection e with e1 e2
 subst e1 e2
 exact ⟨x, hl x (List.mem_of_getElem? hx), hb, by simpa using c0⟩
set_option maxRecDepth 100000 in
set_option maxHeartbeats 32000000 in
theorem readLines_of (w : World) (hv : VarsP w) (hmany : ∀ W, VarsP W → Calls Tryz.prog 17 #[] W (RetX (.bool true) W)) : Calls Tryz.prog 5 #[] w (RetX (.bool true) w) := by
 have hs := short4
 simp only [List.mem_append] at hs
 have HSL := hide (fun t (h : t ∈ lines4) => hs t (.inl (.inl (.inl h))))
 have HSW := hide (fun t (h : t ∈ words4) => hs t (.inl (.inl (.inr h))))
 have HSH := hide (fun t (h : t ∈ heads4) => hs t (.inl (.inr h)))
 have HSK := hide (fun t (h : t ∈ blocks4) => hs t (.inr h))
 clear hs
 obtain ⟨g1, hg1⟩ : ∃ g, w.heap.size = g := ⟨_, rfl⟩
 obtain ⟨W1, hW1⟩ : ∃ W, w.alloc (.cells #[.string ⟨#[118, 49, 32, 226, 134, 144, 32, 99, 111, 110, 115, 116, 32, 45, 53]⟩, .string ⟨#[118, 50, 32, 226, 134, 144, 32, 97, 100, 100, 32, 118, 49, 32, 118, 51]⟩, .string ⟨#[118, 49, 32, 226, 134, 144, 32, 115, 97, 109, 101, 32, 118, 50, 32, 118, 50]⟩, .string ⟨#[118, 49, 32, 226, 134, 144, 32, 108, 111, 97, 100, 32, 118, 50, 32, 55]⟩, .string ⟨#[115, 116, 111, 114, 101, 32, 118, 49, 32, 45, 51, 32, 118, 50]⟩, .string ⟨#[118, 49, 32, 226, 134, 144, 32, 99, 97, 108, 108, 32, 57, 57, 32, 118, 49, 32, 118, 50]⟩, .string ⟨#[99, 97, 108, 108, 32, 48]⟩, .string ⟨#[118, 49, 32, 226, 134, 144, 32, 118, 50, 48, 48]⟩, .string ⟨#[226, 134, 146, 32, 49]⟩, .string ⟨#[118, 49, 32, 226, 134, 146, 32, 48, 32, 54, 51]⟩, .string ⟨#[114, 101, 116, 117, 114, 110, 32, 118, 49]⟩, .string ⟨#[114, 101, 116, 117, 114, 110]⟩, .string ⟨#[116, 114, 97, 112]⟩] 9) = W := ⟨_, rfl⟩
 obtain ⟨g2, hg2⟩ : ∃ g, W1.heap.size = g := ⟨_, rfl⟩
 obtain ⟨W2, hW2⟩ : ∃ W, W1.alloc (.cells #[.string ⟨#[]⟩, .string ⟨#[118, 48]⟩, .string ⟨#[118, 50, 48, 49]⟩, .string ⟨#[118, 48, 49]⟩, .string ⟨#[120]⟩, .string ⟨#[226, 134, 144]⟩, .string ⟨#[226, 134, 146]⟩, .string ⟨#[53]⟩, .string ⟨#[45, 49]⟩, .string ⟨#[54, 52]⟩, .string ⟨#[97, 100, 100]⟩, .string ⟨#[99, 97, 108, 108]⟩, .string ⟨#[98, 108, 111, 99, 107]⟩, .string ⟨#[10]⟩, .string ⟨#[59, 32, 120, 10]⟩, .string ⟨#[49, 48, 57, 57, 53, 49, 49, 54, 50, 55, 55, 55, 55]⟩, .string ⟨#[118, 49, 32, 118, 49]⟩] 9) = W := ⟨_, rfl⟩
 have hsl1 : Sl W1 (fun b => b = g1) (some ⟨g1, 0, none⟩) 13 13 lines4 := by rw [← hW1, ← hg1]; exact texts4 w lines4 13 rfl HSL.out (by decide)
 have HL2 := hide (show Sl W2 (fun b => b = g1) (some ⟨g1, 0, none⟩) 13 13 lines4 from by rw [← hW2]; exact hsl1.alloc _)
 have HWD2 := hide (show Sl W2 (fun b => b = g2) (some ⟨g2, 0, none⟩) 17 17 words4 from by rw [← hW2, ← hg2]; exact texts4 W1 words4 17 rfl HSW.out (by decide))
 have hb1 : Below w.heap.size w W1 := by rw [← hW1]; exact (Below.refl _ _).alloc (Nat.le_refl _) _
 have HB2 := hide (show Below w.heap.size w W2 from by rw [← hW2]; exact hb1.alloc hb1.size _)
 have HV2 := hide (show VarsP W2 from hv.below HB2.out hv.v.sz)
 have HRP := hide (fun (s : ByteArray) (W : World) (hW : VarsP W) => readParses_any s W hW)
 have HMY := hide hmany
 clear hsl1 hv hmany
 go_enter Tryz.func5, Tryz.ntmps5
 go_upto_region 3 with fail
 try rw [hg1]
 try rw [hW1]
 try rw [hg2]
 try rw [hW2]
 clear hg1 hW1 hg2 hW2
 go_wp2_with fail
 go_loopw [3, 4, 5, 6, 7] (fun v _ _ _ _ wr => ∃ p : Nat, v = .int .i64 p ∧ p ≤ 13 ∧ Below W2.heap.size W2 wr) (fun v _ _ _ _ _ => 13 - (intOf v).toNat)
 case atStart => exact ⟨0, rfl, by omega, Below.refl _ _⟩
 case round =>
  obtain ⟨w1, rfl⟩ : ∃ V, V = wr := ⟨_, rfl⟩
  obtain ⟨p, rfl, hp, hbw⟩ := hrel
  have HBW := hide hbw
  have HV1 := hide (show VarsP w1 from HV2.out.below hbw HV2.out.v.sz)
  clear hbw
  by_cases hlt : p < 13
  ·have pi : (p : Int) < 13 := by omega
   have HL1 := hide (HL2.out.belowAll HBW.out)
   have HWD1 := hide (HWD2.out.belowAll HBW.out)
   obtain ⟨s, hs64, gl, c0⟩ := at_text4 HL1.out HSL.out hlt
   have HRW := hide (fun (s : ByteArray) (W : World) (hW : Below w1.heap.size w1 W) => HRP.out s W (HV1.out.below hW HV1.out.v.sz))
   have q1 : (⟨#[102, 117, 110, 10, 98, 108, 111, 99, 107, 32, 48, 10]⟩ : ByteArray).size + s.size ≤ 9223372036854775807 := by show 12 + s.size ≤ _; omega
   have q2 : (⟨#[102, 117, 110, 32, 118, 49, 32, 118, 50, 10, 98, 108, 111, 99, 107, 32, 48, 10]⟩ : ByteArray).size + s.size ≤ 9223372036854775807 := by show 18 + s.size ≤ _; omega
   have q3 : ((⟨#[102, 117, 110, 32, 118, 49, 32, 118, 50, 10, 98, 108, 111, 99, 107, 32, 48, 10]⟩ : ByteArray) ++ s).size + (⟨#[10, 116, 114, 97, 112]⟩ : ByteArray).size ≤ 9223372036854775807 := by rw [ByteArray.size_append]; show 18 + s.size + 5 ≤ _; omega
   have q4 : (⟨#[102, 117, 110, 10, 98, 108, 111, 99, 107, 32, 48, 10, 116, 114, 97, 112, 10, 98, 108, 111, 99, 107, 32, 49, 10]⟩ : ByteArray).size + s.size ≤ 9223372036854775807 := by show 25 + s.size ≤ _; omega
   have q5 : ((⟨#[102, 117, 110, 10, 98, 108, 111, 99, 107, 32, 48, 10, 116, 114, 97, 112, 10, 98, 108, 111, 99, 107, 32, 49, 10]⟩ : ByteArray) ++ s).size + (⟨#[10]⟩ : ByteArray).size ≤ 9223372036854775807 := by rw [ByteArray.size_append]; show 25 + s.size + 1 ≤ _; omega
   have q6 : (((⟨#[102, 117, 110, 10, 98, 108, 111, 99, 107, 32, 48, 10, 116, 114, 97, 112, 10, 98, 108, 111, 99, 107, 32, 49, 10]⟩ : ByteArray) ++ s) ++ ⟨#[10]⟩).size + s.size ≤ 9223372036854775807 := by rw [ByteArray.size_append, ByteArray.size_append]; show 25 + s.size + 1 + s.size ≤ _; omega
   have q7 : ((((⟨#[102, 117, 110, 10, 98, 108, 111, 99, 107, 32, 48, 10, 116, 114, 97, 112, 10, 98, 108, 111, 99, 107, 32, 49, 10]⟩ : ByteArray) ++ s) ++ ⟨#[10]⟩) ++ s).size + (⟨#[10]⟩ : ByteArray).size ≤ 9223372036854775807 := by rw [ByteArray.size_append, ByteArray.size_append, ByteArray.size_append]; show 25 + s.size + 1 + s.size + 1 ≤ _; omega
   go_upto_region 9 with (first | (simp only [run_string_add_sum _ _ _ q1, run_string_add_sum _ _ _ q2, run_string_add_sum _ _ _ q3, run_string_add_sum _ _ _ q4, run_string_add_sum _ _ _ q5, run_string_add_sum _ _ _ q6, run_string_add_sum _ _ _ q7]) | (go_at_call 4; refine (HRW.out _ _ (by repeat (first | exact Below.refl _ _ | assumption | refine Below.alloc ?_ (by simp [size_ext]; try omega) _ | refine Below.ext ?_ (by simp [size_ext]; try omega) _ | refine Below.drew ?_ | refine Below.setCell ?_ (by simp [size_ext]; try omega) _))).mono ?_; rintro e _ ⟨rfl, ux, rfl⟩))
   refine name_world fun Wy hWy => ?_
   have HBY := hide (show Below w1.heap.size w1 Wy from by rw [hWy]; exact (by repeat (first | exact Below.refl _ _ | assumption | refine Below.alloc ?_ (by simp [size_ext]; try omega) _ | refine Below.ext ?_ (by simp [size_ext]; try omega) _ | refine Below.drew ?_ | refine Below.setCell ?_ (by simp [size_ext]; try omega) _)))
   clear hWy q1 q2 q3 q4 q5 q6 q7 c0 gl
   go_wp2_with fail
   go_loopw [5, 6, 7] (fun fr v _ wr => ∃ f k : Nat, fr = .int .i64 f ∧ v = .int .i64 k ∧ f ≤ s.size ∧ f ≤ k ∧ k ≤ s.size + 1 ∧ Below w1.heap.size w1 wr) (fun _ v _ _ => s.size + 1 - (intOf v).toNat)
   case atStart => exact ⟨0, 0, rfl, rfl, by omega, by omega, by omega, HBY.out⟩
   case round =>
    obtain ⟨w2, rfl⟩ : ∃ V, V = wr := ⟨_, rfl⟩
    obtain ⟨f, k, rfl, rfl, hf, hfk, hk, hb2⟩ := hrel
    have HB12 := hide hb2
    clear hb2
    by_cases hks : k ≤ s.size
    ·have ki : (k : Int) ≤ (s.size : Int) := by omega
     by_cases hkl : k < s.size
     ·have kl : (k : Int) < (s.size : Int) := by omega
      cases q32 : ((s[k].toNat : Int) != 32) with
      | true =>
       go_wp2_with fail
       go_roundw
       case rel => exact ⟨f, k + 1, rfl, by go_num, hf, by omega, by omega, HB12.out⟩
       case measure => simp [intOf]; omega
      | false =>
       go_wp2_with fail
       go_loopw [7] (fun v wr => ∃ j : Nat, v = .int .i64 j ∧ j ≤ 17 ∧ Below w1.heap.size w1 wr) (fun v _ => 17 - (intOf v).toNat)
       case atStart => exact ⟨0, rfl, by omega, HB12.out⟩
       case round =>
        obtain ⟨w3, rfl⟩ : ∃ V, V = wr := ⟨_, rfl⟩
        obtain ⟨j, rfl, hj, hb3⟩ := hrel
        have HB13 := hide hb3
        clear hb3
        by_cases hjt : j < 17
        ·have ji : (j : Int) < 17 := by omega
         obtain ⟨t, ht64, gt, c1⟩ := at_text4 (HWD1.out.belowAll HB13.out) HSW.out hjt
         have HV3 := hide (show VarsP w3 from HV1.out.below HB13.out HV1.out.v.sz)
         have HRU := hide (fun (s : ByteArray) (u : Ext) => HRP.out s (w3.ext u) (HV3.out.ext u))
         have hz1 : (⟨#[102, 117, 110, 10, 98, 108, 111, 99, 107, 32, 48, 10]⟩ : ByteArray).size = 12 := rfl
         have hz2 : (⟨#[10, 116, 114, 97, 112]⟩ : ByteArray).size = 5 := rfl
         have fi : (f : Int) ≤ (s.size : Int) := by omega
         obtain ⟨a1, ha1⟩ : ∃ a, s.extract 0 f = a := ⟨_, rfl⟩
         obtain ⟨a2, ha2⟩ : ∃ a, s.extract k s.size = a := ⟨_, rfl⟩
         have l1 : a1.size ≤ 64 := by rw [← ha1, ByteArray.size_extract]; omega
         have l2 : a2.size ≤ 64 := by rw [← ha2, ByteArray.size_extract]; omega
         obtain ⟨b1, hb1⟩ : ∃ a, ⟨#[102, 117, 110, 10, 98, 108, 111, 99, 107, 32, 48, 10]⟩ ++ a1 = a := ⟨_, rfl⟩
         have m1 : b1.size ≤ 100 := by rw [← hb1, ByteArray.size_append]; omega
         obtain ⟨b2, hb2⟩ : ∃ a, b1 ++ t = a := ⟨_, rfl⟩
         have m2 : b2.size ≤ 200 := by rw [← hb2, ByteArray.size_append]; omega
         obtain ⟨b3, hb3⟩ : ∃ a, b2 ++ a2 = a := ⟨_, rfl⟩
         have m3 : b3.size ≤ 300 := by rw [← hb3, ByteArray.size_append]; omega
         obtain ⟨b4, hb4⟩ : ∃ a, b3 ++ ⟨#[10, 116, 114, 97, 112]⟩ = a := ⟨_, rfl⟩
         go_wp2_with fail
         refine wp_region_flow_ext [] [] (by kernel_rfl) rfl (by kernel_rfl) ?_
         repeat (refine flow_known (by kernel_rfl) (fun K hK => ?_); go_simp; (first | (refine hK _ ?_; clear hK K) | (apply Exists.intro; refine ⟨fun _ => ?_, hK _ ?_⟩; (fail); clear hK K)))
         refine flow_out [] (.string b1) (by kernel_rfl) ?_ ?_
         ·intro u
          try simp only [List.nil_append, List.cons_append, useH_f, useH_t, useH_nil]
          go_simp
          first | (rw [if_neg (by omega)]; exact ⟨rfl, rfl⟩) | (rw [if_neg (by omega)]; exact ⟨by rw [hb1], rfl⟩)
         repeat (refine flow_known (by kernel_rfl) (fun K hK => ?_); go_simp; (first | (refine hK _ ?_; clear hK K) | (apply Exists.intro; refine ⟨fun _ => ?_, hK _ ?_⟩; (fail); clear hK K)))
         refine flow_out [] (.string b2) (by kernel_rfl) ?_ ?_
         ·intro u
          try simp only [List.nil_append, List.cons_append, useH_f, useH_t, useH_nil]
          go_simp
          first | (rw [if_neg (by omega)]; exact ⟨rfl, rfl⟩) | (rw [if_neg (by omega)]; exact ⟨by rw [hb2], rfl⟩)
         repeat (refine flow_known (by kernel_rfl) (fun K hK => ?_); go_simp; (first | (refine hK _ ?_; clear hK K) | (apply Exists.intro; refine ⟨fun _ => ?_, hK _ ?_⟩; (fail); clear hK K)))
         refine flow_out [] (.string b3) (by kernel_rfl) ?_ ?_
         ·intro u
          try simp only [List.nil_append, List.cons_append, useH_f, useH_t, useH_nil]
          go_simp
          first | (rw [if_neg (by omega)]; exact ⟨rfl, rfl⟩) | (rw [if_neg (by omega)]; exact ⟨by rw [hb3], rfl⟩)
         refine flow_out [] (.string b4) (by kernel_rfl) ?_ ?_
         ·intro u
          try simp only [List.nil_append, List.cons_append, useH_f, useH_t, useH_nil]
          go_simp
          first | (rw [if_neg (by omega)]; exact ⟨rfl, rfl⟩) | (rw [if_neg (by omega)]; exact ⟨by rw [hb4], rfl⟩)
         repeat (refine flow_known (by kernel_rfl) (fun K hK => ?_); go_simp; (first | (refine hK _ ?_; clear hK K) | (apply Exists.intro; refine ⟨fun _ => ?_, hK _ ?_⟩; ((go_at_call 4; exact HRU.out _ _)); clear hK K)))
         refine flow_done [] (by kernel_rfl) ?_
         intro u6
         simp only [List.nil_append, List.cons_append, endH_f, endH_t, endH_nil]
         go_simp
         go_wp2_with fail
         go_roundw
         case rel => exact ⟨j + 1, by go_num, by omega, HB13.out.ext HB13.out.size u6⟩
         case measure => simp [intOf]; omega
        ·have ji : ¬ (j : Int) < 17 := by omega
         have hmn : min ((k : Int) + 1) (s.size : Int) = ((min (k + 1) s.size : Nat) : Int) := by omega
         go_wp2_with fail
         go_roundw
         case rel => exact ⟨min (k + 1) s.size, k + 1, by go_num, by go_num, by omega, by omega, by omega, HB13.out⟩
         case measure => simp [intOf]; omega
     ·have kl : ¬ (k : Int) < (s.size : Int) := by omega
      go_wp2_with fail
      go_loopw [7] (fun v wr => ∃ j : Nat, v = .int .i64 j ∧ j ≤ 17 ∧ Below w1.heap.size w1 wr) (fun v _ => 17 - (intOf v).toNat)
      case atStart => exact ⟨0, rfl, by omega, HB12.out⟩
      case round =>
       obtain ⟨w3, rfl⟩ : ∃ V, V = wr := ⟨_, rfl⟩
       obtain ⟨j, rfl, hj, hb3⟩ := hrel
       have HB13 := hide hb3
       clear hb3
       by_cases hjt : j < 17
       ·have ji : (j : Int) < 17 := by omega
        obtain ⟨t, ht64, gt, c1⟩ := at_text4 (HWD1.out.belowAll HB13.out) HSW.out hjt
        have HV3 := hide (show VarsP w3 from HV1.out.below HB13.out HV1.out.v.sz)
        have HRU := hide (fun (s : ByteArray) (u : Ext) => HRP.out s (w3.ext u) (HV3.out.ext u))
        have hz1 : (⟨#[102, 117, 110, 10, 98, 108, 111, 99, 107, 32, 48, 10]⟩ : ByteArray).size = 12 := rfl
        have hz2 : (⟨#[10, 116, 114, 97, 112]⟩ : ByteArray).size = 5 := rfl
        have fi : (f : Int) ≤ (s.size : Int) := by omega
        obtain ⟨a1, ha1⟩ : ∃ a, s.extract 0 f = a := ⟨_, rfl⟩
        obtain ⟨a2, ha2⟩ : ∃ a, s.extract k s.size = a := ⟨_, rfl⟩
        have l1 : a1.size ≤ 64 := by rw [← ha1, ByteArray.size_extract]; omega
        have l2 : a2.size ≤ 64 := by rw [← ha2, ByteArray.size_extract]; omega
        obtain ⟨b1, hb1⟩ : ∃ a, ⟨#[102, 117, 110, 10, 98, 108, 111, 99, 107, 32, 48, 10]⟩ ++ a1 = a := ⟨_, rfl⟩
        have m1 : b1.size ≤ 100 := by rw [← hb1, ByteArray.size_append]; omega
        obtain ⟨b2, hb2⟩ : ∃ a, b1 ++ t = a := ⟨_, rfl⟩
        have m2 : b2.size ≤ 200 := by rw [← hb2, ByteArray.size_append]; omega
        obtain ⟨b3, hb3⟩ : ∃ a, b2 ++ a2 = a := ⟨_, rfl⟩
        have m3 : b3.size ≤ 300 := by rw [← hb3, ByteArray.size_append]; omega
        obtain ⟨b4, hb4⟩ : ∃ a, b3 ++ ⟨#[10, 116, 114, 97, 112]⟩ = a := ⟨_, rfl⟩
        go_wp2_with fail
        refine wp_region_flow_ext [] [] (by kernel_rfl) rfl (by kernel_rfl) ?_
        repeat (refine flow_known (by kernel_rfl) (fun K hK => ?_); go_simp; (first | (refine hK _ ?_; clear hK K) | (apply Exists.intro; refine ⟨fun _ => ?_, hK _ ?_⟩; (fail); clear hK K)))
        refine flow_out [] (.string b1) (by kernel_rfl) ?_ ?_
        ·intro u
         try simp only [List.nil_append, List.cons_append, useH_f, useH_t, useH_nil]
         go_simp
         first | (rw [if_neg (by omega)]; exact ⟨rfl, rfl⟩) | (rw [if_neg (by omega)]; exact ⟨by rw [hb1], rfl⟩)
        repeat (refine flow_known (by kernel_rfl) (fun K hK => ?_); go_simp; (first | (refine hK _ ?_; clear hK K) | (apply Exists.intro; refine ⟨fun _ => ?_, hK _ ?_⟩; (fail); clear hK K)))
        refine flow_out [] (.string b2) (by kernel_rfl) ?_ ?_
        ·intro u
         try simp only [List.nil_append, List.cons_append, useH_f, useH_t, useH_nil]
         go_simp
         first | (rw [if_neg (by omega)]; exact ⟨rfl, rfl⟩) | (rw [if_neg (by omega)]; exact ⟨by rw [hb2], rfl⟩)
        repeat (refine flow_known (by kernel_rfl) (fun K hK => ?_); go_simp; (first | (refine hK _ ?_; clear hK K) | (apply Exists.intro; refine ⟨fun _ => ?_, hK _ ?_⟩; (fail); clear hK K)))
        refine flow_out [] (.string b3) (by kernel_rfl) ?_ ?_
        ·intro u
         try simp only [List.nil_append, List.cons_append, useH_f, useH_t, useH_nil]
         go_simp
         first | (rw [if_neg (by omega)]; exact ⟨rfl, rfl⟩) | (rw [if_neg (by omega)]; exact ⟨by rw [hb3], rfl⟩)
        refine flow_out [] (.string b4) (by kernel_rfl) ?_ ?_
        ·intro u
         try simp only [List.nil_append, List.cons_append, useH_f, useH_t, useH_nil]
         go_simp
         first | (rw [if_neg (by omega)]; exact ⟨rfl, rfl⟩) | (rw [if_neg (by omega)]; exact ⟨by rw [hb4], rfl⟩)
        repeat (refine flow_known (by kernel_rfl) (fun K hK => ?_); go_simp; (first | (refine hK _ ?_; clear hK K) | (apply Exists.intro; refine ⟨fun _ => ?_, hK _ ?_⟩; ((go_at_call 4; exact HRU.out _ _)); clear hK K)))
        refine flow_done [] (by kernel_rfl) ?_
        intro u6
        simp only [List.nil_append, List.cons_append, endH_f, endH_t, endH_nil]
        go_simp
        go_wp2_with fail
        go_roundw
        case rel => exact ⟨j + 1, by go_num, by omega, HB13.out.ext HB13.out.size u6⟩
        case measure => simp [intOf]; omega
       ·have ji : ¬ (j : Int) < 17 := by omega
        have hmn : min ((k : Int) + 1) (s.size : Int) = ((min (k + 1) s.size : Nat) : Int) := by omega
        go_wp2_with fail
        go_roundw
        case rel => exact ⟨min (k + 1) s.size, k + 1, by go_num, by go_num, by omega, by omega, by omega, HB13.out⟩
        case measure => simp [intOf]; omega
    ·have ki : ¬ (k : Int) ≤ (s.size : Int) := by omega
     have HBF := hide (show Below W2.heap.size W2 w2 from HBW.out.trans (HB12.out.mono HBW.out.size))
     go_wp2_with fail
     go_roundw
     case rel => exact ⟨p + 1, by go_num, by omega, HBF.out⟩
     case measure => simp [intOf]; omega
  ·have pi : ¬ (p : Int) < 13 := by omega
   obtain ⟨g3, hg3⟩ : ∃ g, w1.heap.size = g := ⟨_, rfl⟩
   obtain ⟨W3, hW3⟩ : ∃ W, w1.alloc (.cells #[.string ⟨#[]⟩, .string ⟨#[102, 117, 110]⟩, .string ⟨#[102, 117, 110, 32, 118, 49, 32, 118, 50, 32, 118, 49]⟩, .string ⟨#[102, 117, 110, 32, 118, 49, 32, 120]⟩, .string ⟨#[102, 117, 110, 32, 49]⟩, .string ⟨#[102, 117, 110, 32, 118, 49, 32, 118, 50, 32, 118, 51, 32, 118, 52, 32, 118, 53, 32, 118, 54, 32, 118, 55, 32, 118, 56]⟩, .string ⟨#[102, 117, 110, 32, 118, 49, 32, 118, 50, 32, 118, 51, 32, 118, 52, 32, 118, 53, 32, 118, 54, 32, 118, 55, 32, 118, 56, 32, 118, 57]⟩, .string ⟨#[102, 117, 110, 32, 118, 49, 32, 118, 50, 32, 118, 51, 32, 118, 52, 32, 118, 53, 32, 118, 54, 32, 118, 55, 32, 118, 56, 32, 120]⟩, .string ⟨#[102, 117, 110, 32, 98, 108, 111, 99, 107, 32, 48]⟩, .string ⟨#[102, 117, 110, 32, 118, 49, 10, 10, 59, 10]⟩, .string ⟨#[103, 117, 110]⟩, .string ⟨#[102, 117, 110, 32, 226, 134, 144, 32, 118, 49]⟩] 9) = W := ⟨_, rfl⟩
   obtain ⟨g4, hg4⟩ : ∃ g, W3.heap.size = g := ⟨_, rfl⟩
   obtain ⟨W4, hW4⟩ : ∃ W, W3.alloc (.cells #[.string ⟨#[]⟩, .string ⟨#[98, 108, 111, 99, 107, 32, 48, 10, 116, 114, 97, 112]⟩, .string ⟨#[98, 108, 111, 99, 107, 32, 49, 10, 116, 114, 97, 112]⟩, .string ⟨#[98, 108, 111, 99, 107, 32, 45, 49, 10, 116, 114, 97, 112]⟩, .string ⟨#[98, 108, 111, 99, 107, 32, 54, 52, 10, 116, 114, 97, 112]⟩, .string ⟨#[98, 108, 111, 99, 107, 10, 48, 10, 116, 114, 97, 112]⟩, .string ⟨#[98, 108, 111, 99, 107, 32, 48, 32, 116, 114, 97, 112]⟩, .string ⟨#[98, 108, 111, 99, 107, 32, 48, 10]⟩, .string ⟨#[98, 108, 111, 99, 107, 32, 48, 10, 116, 114, 97, 112, 10, 98, 108, 111, 99, 107, 32, 48, 10, 116, 114, 97, 112]⟩, .string ⟨#[98, 108, 111, 99, 107, 32, 48, 10, 116, 114, 97, 112, 10, 116, 114, 97, 112]⟩, .string ⟨#[98, 108, 111, 99, 107, 32, 48, 10, 116, 114, 97, 112, 10, 98, 108, 111, 99, 107, 32, 49, 10, 114, 101, 116, 117, 114, 110, 32, 118, 49, 32, 118, 50]⟩, .string ⟨#[98, 108, 111, 99, 107, 32, 48, 10, 99, 97, 108, 108, 32, 53, 32, 118, 49, 32, 118, 50, 32, 118, 51, 32, 118, 52, 32, 118, 53, 32, 118, 54, 32, 118, 55, 32, 118, 56, 10, 116, 114, 97, 112]⟩, .string ⟨#[98, 108, 111, 99, 107, 32, 48, 10, 99, 97, 108, 108, 32, 53, 32, 118, 49, 32, 118, 50, 32, 118, 51, 32, 118, 52, 32, 118, 53, 32, 118, 54, 32, 118, 55, 32, 118, 56, 32, 118, 57, 10, 116, 114, 97, 112]⟩] 9) = W := ⟨_, rfl⟩
   have hsl3 : Sl W3 (fun b => b = g3) (some ⟨g3, 0, none⟩) 12 12 heads4 := by rw [← hW3, ← hg3]; exact texts4 w1 heads4 12 rfl HSH.out (by decide)
   have HH4 := hide (show Sl W4 (fun b => b = g3) (some ⟨g3, 0, none⟩) 12 12 heads4 from by rw [← hW4]; exact hsl3.alloc _)
   have HK4 := hide (show Sl W4 (fun b => b = g4) (some ⟨g4, 0, none⟩) 13 13 blocks4 from by rw [← hW4, ← hg4]; exact texts4 W3 blocks4 13 rfl HSK.out (by decide))
   have hb3 : Below w1.heap.size w1 W3 := by rw [← hW3]; exact (Below.refl _ _).alloc (Nat.le_refl _) _
   have hb4 : Below w1.heap.size w1 W4 := by rw [← hW4]; exact hb3.alloc hb3.size _
   have HB4 := hide (show Below w.heap.size w W4 from (HB2.out.trans (HBW.out.mono HB2.out.size)).trans (hb4.mono (by have := HB2.out.size; have := HBW.out.size; omega)))
   have HV4 := hide (show VarsP W4 from HV1.out.below hb4 HV1.out.v.sz)
   clear hsl3 hb3 hb4
   go_upto_region 22 with fail
   try rw [hg3]
   try rw [hW3]
   try rw [hg4]
   try rw [hW4]
   clear hg3 hW3 hg4 hW4
   go_wp2_with fail
   go_loopw [10, 11] (fun v _ wr => ∃ q : Nat, v = .int .i64 q ∧ q ≤ 12 ∧ Below W4.heap.size W4 wr) (fun v _ _ => 12 - (intOf v).toNat)
   case atStart => exact ⟨0, rfl, by omega, Below.refl _ _⟩
   case round =>
    obtain ⟨w2, rfl⟩ : ∃ V, V = wr := ⟨_, rfl⟩
    obtain ⟨q, rfl, hq, hb2⟩ := hrel
    have HB12 := hide hb2
    clear hb2
    by_cases hqt : q < 12
    ·have qi : (q : Int) < 12 := by omega
     go_wp2_with fail
     go_loopw [11] (fun v wr => ∃ r : Nat, v = .int .i64 r ∧ r ≤ 13 ∧ Below W4.heap.size W4 wr) (fun v _ => 13 - (intOf v).toNat)
     case atStart => exact ⟨0, rfl, by omega, HB12.out⟩
     case round =>
      obtain ⟨w3, rfl⟩ : ∃ V, V = wr := ⟨_, rfl⟩
      obtain ⟨r, rfl, hr, hb3⟩ := hrel
      have HB13 := hide hb3
      clear hb3
      by_cases hrt : r < 13
      ·have ri : (r : Int) < 13 := by omega
       obtain ⟨x, hx64, gh, c1⟩ := at_text4 (HH4.out.belowAll HB13.out) HSH.out hqt
       obtain ⟨y, hy64, gk, c2⟩ := at_text4 (HK4.out.belowAll HB13.out) HSK.out hrt
       have HV3 := hide (show VarsP w3 from HV4.out.below HB13.out HV4.out.v.sz)
       have HRU := hide (fun (s : ByteArray) (u : Ext) => HRP.out s (w3.ext u) (HV3.out.ext u))
       have hz2 : (⟨#[10]⟩ : ByteArray).size = 1 := rfl
       obtain ⟨b1, hb1⟩ : ∃ a, x ++ ⟨#[10]⟩ = a := ⟨_, rfl⟩
       have l1 : b1.size ≤ 65 := by rw [← hb1, ByteArray.size_append]; omega
       obtain ⟨b2, hb2⟩ : ∃ a, b1 ++ y = a := ⟨_, rfl⟩
       go_wp2_with fail
       refine wp_region_flow_ext [] [] (by kernel_rfl) rfl (by kernel_rfl) ?_
       repeat (refine flow_known (by kernel_rfl) (fun K hK => ?_); go_simp; (first | (refine hK _ ?_; clear hK K) | (apply Exists.intro; refine ⟨fun _ => ?_, hK _ ?_⟩; (fail); clear hK K)))
       refine flow_out [] (.string b1) (by kernel_rfl) ?_ ?_
       ·intro u
        try simp only [List.nil_append, List.cons_append, useH_f, useH_t, useH_nil]
        go_simp
        first | (rw [if_neg (by omega)]; exact ⟨rfl, rfl⟩) | (rw [if_neg (by omega)]; exact ⟨by rw [hb1], rfl⟩)
       repeat (refine flow_known (by kernel_rfl) (fun K hK => ?_); go_simp; (first | (refine hK _ ?_; clear hK K) | (apply Exists.intro; refine ⟨fun _ => ?_, hK _ ?_⟩; (fail); clear hK K)))
       refine flow_out [] (.string b2) (by kernel_rfl) ?_ ?_
       ·intro u
        try simp only [List.nil_append, List.cons_append, useH_f, useH_t, useH_nil]
        go_simp
        first | (rw [if_neg (by omega)]; exact ⟨rfl, rfl⟩) | (rw [if_neg (by omega)]; exact ⟨by rw [hb2], rfl⟩)
       repeat (refine flow_known (by kernel_rfl) (fun K hK => ?_); go_simp; (first | (refine hK _ ?_; clear hK K) | (apply Exists.intro; refine ⟨fun _ => ?_, hK _ ?_⟩; ((go_at_call 4; exact HRU.out _ _)); clear hK K)))
       refine flow_done [] (by kernel_rfl) ?_
       intro u6
       simp only [List.nil_append, List.cons_append, endH_f, endH_t, endH_nil]
       go_simp
       go_wp2_with fail
       go_roundw
       case rel => exact ⟨r + 1, by go_num, by omega, HB13.out.ext HB13.out.size u6⟩
       case measure => simp [intOf]; omega
      ·have ri : ¬ (r : Int) < 13 := by omega
       go_wp2_with fail
       go_roundw
       case rel => exact ⟨q + 1, by go_num, by omega, HB13.out⟩
       case measure => simp [intOf]; omega
    ·have qi : ¬ (q : Int) < 12 := by omega
     have HV5 := hide (show VarsP w2 from HV4.out.below HB12.out HV4.out.v.sz)
     have HMW := hide (HMY.out w2 HV5.out)
     have HAW := hide (fun u : Ext => awake04_any (w2.ext u) (HV5.out.ext u))
     have HBF := hide (show Below w.heap.size w w2 from HB4.out.trans (HB12.out.mono HB4.out.size))
     go_wp2_with (first | (go_at_call 17; (with_reducible refine HMW.out.mono ?_); rintro e _ ⟨rfl, u1, rfl⟩) | (go_at_call 9; (with_reducible refine (HAW.out _).mono ?_); rintro e _ ⟨rfl, u2, rfl⟩))
     go_ret
     exact RetX.b rfl ((HBF.out.ext HBF.out.size u1).ext (by rw [size_ext]; have := HBF.out.size; omega) u2)
end Go.Proofs.YtljglhaeonbfoaaGreatDoor
namespace Go.Proofs.YtljglhaeonbfoaaGreatDoor
def spaces4 (n : Nat) : ByteArray := ⟨(List.replicate n (32 : UInt8)).toArray⟩
theorem spaces4_size (n : Nat) : (spaces4 n).size = n := by
 show (List.replicate n (32 : UInt8)).toArray.size = n
 simp
theorem runes_spaces4 : ∀ n : Nat, runesBytes (List.replicate n (32 : Int)) = spaces4 n
 | 0 => by apply bytes_ext; rw [runesBytes_list]; rfl
 | n + 1 => by
  apply bytes_ext
  rw [List.replicate_succ, runesBytes_cons, runes_spaces4 n]
  rfl
theorem Lexes.blanks {line col : Int} {rem : Bool} {L : List Int} {ws : List Word} (h : Lexes line col rem L ws) (n : Nat) : Lexes line col rem (L ++ List.replicate n 32) ws := by
 have tail : ∀ (n : Nat) (line col : Int) (rem : Bool), Lexes line col rem (List.replicate n 32) [] := by
  intro n
  induction n with
  | zero => intro _ _ _; exact .nil ..
  | succ n ih => intro line col rem; exact .skip _ _ _ _ _ _ (by decide) (by decide) (.inr (.inl (by decide))) (ih _ _ _)
 have hl : ∀ l : List Int, (∀ c l', l = c :: l' → isLD c = false) → ∀ c l', l ++ List.replicate n 32 = c :: l' → isLD c = false := by
  intro l h c l' e
  cases l with
  | nil =>
   cases n with
   | zero => cases e
   | succ n => injection e with e1 _; subst e1; decide
  | cons a l => injection e with e1 _; exact e1 ▸ h a l rfl
 induction h with
 | nil line col rem => exact tail n _ _ _
 | nl line col rem t ws h ih => exact .nl _ _ _ _ _ ih
 | skip line col rem c t ws h0 h10 hs h ih => exact .skip _ _ _ _ _ _ h0 h10 hs ih
 | num line col t l ws ht hb hh h ih => rw [List.append_assoc]; exact .num _ _ _ _ _ ht hb (hl l hh) ih
 | name line col t l ws h1 h2 h16 hh h ih => rw [List.append_assoc]; exact .name _ _ _ _ _ h1 h2 h16 (hl l hh) ih
 | sign line col c t ws hs h ih => exact .sign _ _ _ _ _ hs ih
theorem over_trail {s : ByteArray} (h : (readR s).err = 0) (n : Nat) : overT (s ++ spaces4 n) = overT s := by
 obtain ⟨ws, hl, hr, hs, hv, _⟩ := read_lexes h
 have e : s ++ spaces4 n = runesBytes (items s 0 ++ List.replicate n 32) := by rw [runesBytes_append, ← hs, runes_spaces4]
 have hi : items (s ++ spaces4 n) 0 = items s 0 ++ List.replicate n 32 := by
  rw [e]
  refine items_of_runes _ fun x hx => ?_
  rcases List.mem_append.1 hx with hx | hx
  ·exact hv x hx
  ·rw [List.eq_of_mem_replicate hx]; unfold VR; omega
 have hr2 : readR (s ++ spaces4 n) = readR s := by
  rw [hr, readR_ref, hi, (hl.blanks n).ref _ _ (Nat.lt_succ_self _)]
  rfl
 unfold overT
 rw [hr2]
theorem parse_trail {s : ByteArray} (h : (readR s).err = 0) {n : Nat} (hz : s.size + n ≤ 262144) (q : Bool) : parse04 q (s ++ spaces4 n) = parse04 q s := by
 have h1 : (s ++ spaces4 n).size = s.size + n := by rw [ByteArray.size_append, spaces4_size]
 unfold parse04
 rw [over_trail h, if_neg (show ¬ 262144 < (s ++ spaces4 n).size by omega), if_neg (show ¬ 262144 < s.size by omega)]
def tLongA : ByteArray := ⟨#[102, 117, 110, 10, 98, 108, 111, 99, 107, 32, 48, 10, 116, 114, 97, 112]⟩
def tLongB : ByteArray := ⟨#[117, 110, 10, 98, 108, 111, 99, 107, 32, 48, 10, 116, 114, 97, 112]⟩
theorem readA : (readR tLongA).err = 0 := by decide +kernel
theorem readB : (readR tLongB).err = 0 := by decide +kernel
theorem parseA : ∃ f, parse04 false tLongA = (f, 0, 0, 0) ∧ f.blocks.length = 1 := ⟨⟨[], [⟨[], ⟨4, 0, 0, 0⟩⟩]⟩, by decide +kernel, rfl⟩
theorem parseB : ∃ l k, parse04 false tLongB = (⟨[], []⟩, l, k, 7) := ⟨1, 1, by decide +kernel⟩
end Go.Proofs.YtljglhaeonbfoaaGreatDoor
namespace Go.Proofs.YtljglhaeonbfoaaGreatDoor
open Go.RowKit
structure SpRow (W : World) (b n i : Nat) : Prop where
 cell : ∀ j, j < n → W.cell? ⟨b, j, none⟩ = some (.int .u8 (if j < i then 32 else 0))
 frz : ∀ j, W.frozen? ⟨b, j, none⟩ = false
 lt : b < W.heap.size
theorem SpRow.made (W : World) (n : Nat) (T : TypeId) : SpRow (W.alloc (.cells (madeCells #[.int .u8 0] n) T)) W.heap.size n 0 := by
 refine ⟨fun j hj => ?_, fun j => ?_, by simp⟩
 ·rw [World.cell?_alloc_mark]
  have e := made_flat #[Value.int .u8 0] n 1 rfl (by decide)
  rw [Nat.mul_one] at e
  rw [← Array.getElem?_toList, e, flat_get (k := 1) rfl (by decide) n j (by omega)]
  simp [Nat.mod_one]
 ·rw [World.frozen?_alloc_mark]; simp
theorem SpRow.step {W : World} {b n i : Nat} (h : SpRow W b n i) (hi : i < n) : SpRow (W.setCell ⟨b, i, none⟩ (.int .u8 32)) b n (i + 1) := by
 refine ⟨fun j hj => ?_, fun j => by rw [World.frozen?_setCell]; exact h.frz j, by simpa using h.lt⟩
 by_cases e : j = i
 ·subst e
  rw [World.cell?_setCell_same' W _ _ (by rw [h.cell j hj]; rfl), if_pos (by omega)]
 ·rw [World.cell?_setCell_other W (a := ⟨b, i, none⟩) (b := ⟨b, j, none⟩) _ (by intro h2; injection h2 with _ h2 _; exact e h2.symm), h.cell j hj]
  by_cases h2 : j < i
  ·rw [if_pos h2, if_pos (by omega)]
  ·rw [if_neg h2, if_neg (by omega)]
theorem SpRow.ext {W : World} {b n i : Nat} (h : SpRow W b n i) (u : Ext) : SpRow (W.ext u) b n i :=
 ⟨fun j hj => (cell?_ext W u _ h.lt).trans (h.cell j hj), fun j => (frozen?_ext W u _ h.lt).trans (h.frz j), by rw [size_ext]; have := h.lt; omega⟩
structure ByRow (W : World) (b n : Nat) (L : List UInt8) : Prop where
 cell : ∀ j, j < n → W.cell? ⟨b, j, none⟩ = some (.int .u8 (((L[j]?).getD 32).toNat : Int))
 lt : b < W.heap.size
theorem ByRow.below {W W' : World} {b n : Nat} {L : List UInt8} (h : ByRow W b n L) (hb : Below W.heap.size W W') : ByRow W' b n L := by
 obtain ⟨u, rfl⟩ := hb.to_ext
 exact ⟨fun j hj => (cell?_ext W u _ h.lt).trans (h.cell j hj), by rw [size_ext]; have := h.lt; omega⟩
theorem size_setCells (b : Nat) : ∀ (vs : List Value) (o : Nat) (w : World), (w.setCells b o vs).heap.size = w.heap.size
 | [], _, _ => rfl
 | v :: r, o, w => by rw [World.setCells, size_setCells b r]; simp
theorem below_setCells4 {B b : Nat} {w0 : World} (hB : B ≤ b) : ∀ (vs : List Value) (o : Nat) (w : World), Below B w0 w → Below B w0 (w.setCells b o vs)
 | [], _, _, h => h
 | v :: r, o, w, h => by rw [World.setCells]; exact below_setCells4 hB r (o + 1) _ (h.setCell (p := ⟨b, o, none⟩) hB v)
theorem SpRow.text {W : World} {b n : Nat} (h : SpRow W b n n) (L : List UInt8) (hL : L.length ≤ n) : ByRow (W.setCells b 0 (L.map fun x => Value.int .u8 (x.toNat : Int))) b n L := by
 refine ⟨fun j hj => ?_, by rw [size_setCells]; exact h.lt⟩
 by_cases hjl : j < L.length
 ·have := World.cell?_setCells_in b (L.map fun x => Value.int .u8 (x.toNat : Int)) 0 W (fun i hi => by rw [Nat.zero_add, h.cell i (by rw [List.length_map] at hi; omega)]; rfl) j (by rw [List.length_map]; exact hjl)
  rw [Nat.zero_add] at this
  rw [this, List.getElem_map, List.getElem?_eq_getElem hjl]
  rfl
 ·rw [World.cell?_setCells_out _ _ _ _ _ (fun _ _ => .inr (by rw [List.length_map]; show 0 + L.length ≤ j; omega)), h.cell j hj, if_pos hj, List.getElem?_eq_none (by omega)]
  rfl
theorem range_text (L : List UInt8) (k m : Nat) (hk : k ≤ L.length) (hm : L.length ≤ k + m) : (List.range m).map (fun j => (L[k + j]?).getD 32) = L.drop k ++ List.replicate (k + m - L.length) 32 := by
 apply List.ext_getElem
 ·simp; omega
 ·intro i h1 h2
  rw [List.getElem_map, List.getElem_range, List.getElem_append]
  by_cases hi : i < (L.drop k).length
  ·rw [dif_pos hi, List.getElem_drop, List.getElem?_eq_getElem (by rw [List.length_drop] at hi; omega)]
   rfl
  ·rw [dif_neg hi, List.getElem_replicate, List.getElem?_eq_none (by rw [List.length_drop] at hi; omega)]
   rfl
theorem ByRow.str {P : Program} {W : World} {b n : Nat} {L : List UInt8} (h : ByRow W b n L) (src dst e : TypeId) (hs : P.underlying src = some (.slice e)) (he : P.underlying e = some (.int .u8)) (hd : P.underlying dst = some .string) (k m c : Nat) (hk : k ≤ L.length) (hm : L.length ≤ k + m) (hn : k + m ≤ n) :
  (convert src dst (.slice (some ⟨b, k, none⟩) m c)).run P W = .ok (.string (⟨(L.drop k).toArray⟩ ++ spaces4 (k + m - L.length))) W := by
 have := run_convert_bytes_back (P := P) W src dst e ⟨b, k, none⟩ c ((List.range m).map (fun j => (L[k + j]?).getD 32)) hs he hd (fun j hj => by
  rw [List.length_map, List.length_range] at hj
  rw [show (⟨b, k, none⟩ : Addr).add j = ⟨b, k + j, none⟩ by simp [Addr.add], h.cell (k + j) (by omega), List.getElem_map, List.getElem_range])
 rw [List.length_map, List.length_range, range_text L k m hk hm] at this
 have e : (⟨(L.drop k ++ List.replicate (k + m - L.length) 32).toArray⟩ : ByteArray) = ⟨(L.drop k).toArray⟩ ++ spaces4 (k + m - L.length) := by
  apply bytes_ext
  rw [ByteArray.data_append, Array.toList_append]
  unfold spaces4
  simp
 rw [this, e]
theorem dig4_row (W : World) (g : Nat) (l : List Nat) (hl : ∀ x ∈ l, x < 10) (hg : W.heap[g]? = some (.cells (l.map fun (x : Nat) => Value.int .u8 (48 + (x : Int))).toArray 5 (0, 0))) : ∃ t : ByteArray, t.size = l.length ∧ (convert 59 9 (.slice (some ⟨g, 0, none⟩) l.length l.length)).run Tryz.prog W = .ok (.string t) W := by
 refine ⟨⟨(l.map fun (x : Nat) => UInt8.ofNat (48 + x)).toArray⟩, by show (l.map _).toArray.size = _; simp, ?_⟩
 have := run_convert_bytes_back (P := Tryz.prog) W 59 9 5 ⟨g, 0, none⟩ l.length (l.map fun (x : Nat) => UInt8.ofNat (48 + x)) Tryz.underlying59 Tryz.underlying5 Tryz.underlying9 (fun j hj => by
  rw [List.length_map] at hj
  have hx := hl l[j] (List.getElem_mem _)
  have e : (((UInt8.ofNat (48 + l[j])).toNat : Nat) : Int) = 48 + (l[j] : Int) := by rw [UInt8.toNat_ofNat']; omega
  rw [Addr.add_lit, cell_of_row _ g _ _ 5 (0, 0) hg, List.getElem_map, e]
  simp [hj])
 rw [List.length_map] at this
 exact this
def RetS4 (k : Nat) (w : World) (e : Ending) (w' : World) : Prop := ∃ t : ByteArray, t.size ≤ k ∧ e = .returned (.string t) ∧ ∃ u : Ext, w' = w.ext u
set_option maxRecDepth 100000 in
set_option maxHeartbeats 4000000 in
theorem number4_any (w : World) (n : Nat) (h : n < 100) : Calls Tryz.prog 56 #[.int .i64 n] w (RetS4 2 w) := by
 by_cases h10 : n < 10
 ·have h1 : (n : Int) < 10 := by omega
  have w1 : IntKind.i64.wrap (48 + (n : Int)) = 48 + n := IntWalk.i64_in _ (by omega)
  have w2 : IntKind.u8.wrap (48 + (n : Int)) = 48 + n := IntWalk.u8_in _ (by omega)
  obtain ⟨t, ht, hcv⟩ := dig4_row (w.alloc (.cells #[.int .u8 (48 + (n : Int))] 5)) w.heap.size [n] (by simp; omega) (heap_alloc_new w _)
  have ht : t.size = 1 := ht
  have hcv : (convert 59 9 (.slice (some ⟨w.heap.size, 0, none⟩) 1 1)).run Tryz.prog (w.alloc (.cells #[.int .u8 (48 + (n : Int))] 5)) = .ok (.string t) (w.alloc (.cells #[.int .u8 (48 + (n : Int))] 5)) := hcv
  go_enter Tryz.func56, Tryz.ntmps56
  go_wp2_with (first | (rw [hcv]; simp only [Result.andThen_ok]) | (unfold Oper.upon; rw [hcv]))
  go_ret
  exact ⟨t, by omega, rfl, Below.to_ext (by repeat (first | exact Below.refl _ _ | assumption | refine Below.alloc ?_ (by simp [size_ext]; try omega) _ | refine Below.ext ?_ (by simp [size_ext]; try omega) _ | refine Below.drew ?_ | refine Below.setCell ?_ (by simp [size_ext]; try omega) _))⟩
 ·have h1 : ¬ (n : Int) < 10 := by omega
  obtain ⟨q, hq⟩ : ∃ q, n / 10 = q := ⟨_, rfl⟩
  have eq : (n : Int).tdiv 10 = (q : Int) := by rw [← hq]; exact Int.tdiv_eq_ediv_of_nonneg (by omega)
  obtain ⟨p, hp⟩ : ∃ p, n % 10 = p := ⟨_, rfl⟩
  have ep : (n : Int).tmod 10 = (p : Int) := by rw [← hp]; exact Int.tmod_eq_emod_of_nonneg (by omega)
  have lp : p < 10 := by omega
  have lq : q < 10 := by omega
  have wq : IntKind.i64.wrap (q : Int) = (q : Int) := IntWalk.i64_in _ (by omega)
  have wp : IntKind.i64.wrap (p : Int) = (p : Int) := IntWalk.i64_in _ (by omega)
  have v1 : IntKind.i64.wrap (48 + (q : Int)) = 48 + q := IntWalk.i64_in _ (by omega)
  have v2 : IntKind.u8.wrap (48 + (q : Int)) = 48 + q := IntWalk.u8_in _ (by omega)
  have w1 : IntKind.i64.wrap (48 + (p : Int)) = 48 + p := IntWalk.i64_in _ (by omega)
  have w2 : IntKind.u8.wrap (48 + (p : Int)) = 48 + p := IntWalk.u8_in _ (by omega)
  obtain ⟨t, ht, hcv⟩ := dig4_row (w.alloc (.cells #[.int .u8 (48 + (q : Int)), .int .u8 (48 + (p : Int))] 5)) w.heap.size [q, p] (by simp; omega) (heap_alloc_new w _)
  have ht : t.size = 2 := ht
  have hcv : (convert 59 9 (.slice (some ⟨w.heap.size, 0, none⟩) 2 2)).run Tryz.prog (w.alloc (.cells #[.int .u8 (48 + (q : Int)), .int .u8 (48 + (p : Int))] 5)) = .ok (.string t) (w.alloc (.cells #[.int .u8 (48 + (q : Int)), .int .u8 (48 + (p : Int))] 5)) := hcv
  clear hq hp
  go_enter Tryz.func56, Tryz.ntmps56
  go_wp2_with (first | (rw [hcv]; simp only [Result.andThen_ok]) | (unfold Oper.upon; rw [hcv]))
  go_ret
  exact ⟨t, by omega, rfl, Below.to_ext (by repeat (first | exact Below.refl _ _ | assumption | refine Below.alloc ?_ (by simp [size_ext]; try omega) _ | refine Below.ext ?_ (by simp [size_ext]; try omega) _ | refine Below.drew ?_ | refine Below.setCell ?_ (by simp [size_ext]; try omega) _))⟩
end Go.Proofs.YtljglhaeonbfoaaGreatDoor
namespace Go.Proofs.YtljglhaeonbfoaaGreatDoor
open Go.RowKit
set_option maxRecDepth 100000 in
set_option maxHeartbeats 32000000 in
theorem many4_any (w : World) (hv : VarsP w) : Calls Tryz.prog 17 #[] w (RetX (.bool true) w) := by
 have HV := hide hv
 have HRP := hide (fun (s : ByteArray) (W : World) (hW : Below w.heap.size w W) => readParses_any s W (hv.below hW hv.v.sz))
 have HPP := hide (fun (s : ByteArray) (W : World) (hW : Below w.heap.size w W) => parse04_any s W (hv.below hW hv.v.sz))
 clear hv
 go_enter Tryz.func17, Tryz.ntmps17
 go_wp2_with fail
 go_loopw [1, 2, 3, 4] (fun v _ _ _ wr => ∃ n : Nat, v = .int .i64 n ∧ 63 ≤ n ∧ n ≤ 67 ∧ Below w.heap.size w wr) (fun v _ _ _ _ => 67 - (intOf v).toNat)
 case atStart => exact ⟨63, rfl, by omega, by omega, Below.refl _ _⟩
 case round =>
  obtain ⟨w1, rfl⟩ : ∃ V, V = wr := ⟨_, rfl⟩
  obtain ⟨n, rfl, hn1, hn2, hbw⟩ := hrel
  have HBW := hide hbw
  have HBWZ := hide hbw.size
  clear hbw
  by_cases hlt : n < 67
  ·have ni : (n : Int) < 67 := by omega
   go_wp2_with fail
   go_loopw [2, 3, 4] (fun a b v wr => ∃ (i : Nat) (x y : ByteArray), a = .string x ∧ b = .string y ∧ v = .int .i64 i ∧ i ≤ n ∧ x.size ≤ 12 + 15 * i ∧ y.size ≤ 4 + 20 * i ∧ Below w.heap.size w wr) (fun _ _ v _ => n - (intOf v).toNat)
   case atStart => exact ⟨0, _, _, rfl, rfl, rfl, by omega, by decide, by decide, HBW.out⟩
   case round =>
    obtain ⟨w2, rfl⟩ : ∃ V, V = wr := ⟨_, rfl⟩
    obtain ⟨i, x, y, rfl, rfl, rfl, hi, hx, hy, hb2⟩ := hrel
    have HB2 := hide hb2
    have hbz := hb2.size
    clear hb2
    by_cases hin : i < n
    ·have ii : (i : Int) < (n : Int) := by omega
     have HNM := hide (number4_any w2 i (by omega))
     have q1 : x.size + (⟨#[118, 49, 32, 226, 134, 144, 32, 99, 111, 110, 115, 116, 32, 48, 10]⟩ : ByteArray).size ≤ 9223372036854775807 := by show x.size + 15 ≤ _; omega
     have q2 : y.size + (⟨#[98, 108, 111, 99, 107, 32]⟩ : ByteArray).size ≤ 9223372036854775807 := by show y.size + 6 ≤ _; omega
     go_wp2_with (first | (simp only [run_string_add_sum _ _ _ q1, run_string_add_sum _ _ _ q2]) | (go_at_call 56; (with_reducible refine HNM.out.mono ?_); rintro e W9 ⟨t, ht, rfl, u, hW9⟩; have HW9 := hide hW9; have HTZ := hide ht; clear hW9 ht; refine Hd.out ?_))
     have htz := HTZ.out
     have q3 : (y ++ ⟨#[98, 108, 111, 99, 107, 32]⟩).size + t.size ≤ 9223372036854775807 := by rw [ByteArray.size_append]; show y.size + 6 + t.size ≤ _; omega
     have q4 : ((y ++ ⟨#[98, 108, 111, 99, 107, 32]⟩) ++ t).size + (⟨#[10, 116, 114, 97, 112, 10]⟩ : ByteArray).size ≤ 9223372036854775807 := by rw [ByteArray.size_append, ByteArray.size_append]; show y.size + 6 + t.size + 6 ≤ _; omega
     refine hide ?_
     go_wp2_with (first | (simp only [run_string_add_sum _ _ _ q3, run_string_add_sum _ _ _ q4]))
     go_roundw
     case rel => exact ⟨i + 1, _, _, rfl, rfl, by go_num, by omega, by rw [ByteArray.size_append]; show x.size + 15 ≤ _; omega, by rw [ByteArray.size_append, ByteArray.size_append, ByteArray.size_append]; show y.size + 6 + t.size + 6 ≤ _; omega, by rw [HW9.out]; exact HB2.out.ext hbz u⟩
     case measure => simp [intOf]; omega
    ·have ii : ¬ (i : Int) < (n : Int) := by omega
     have HRW := hide (fun (s : ByteArray) (W : World) (hW : Below w2.heap.size w2 W) => HRP.out s W (HB2.out.trans (hW.mono hbz)))
     have q1 : x.size + (⟨#[116, 114, 97, 112]⟩ : ByteArray).size ≤ 9223372036854775807 := by show x.size + 4 ≤ _; omega
     have q2 : x.size + (⟨#[118, 49, 32, 226, 134, 144, 32, 99, 111, 110, 115, 116]⟩ : ByteArray).size ≤ 9223372036854775807 := by show x.size + 12 ≤ _; omega
     go_wp2_with (first | (simp only [run_string_add_sum _ _ _ q1, run_string_add_sum _ _ _ q2]) | (go_at_call 4; refine (HRW.out _ _ (by repeat (first | exact Below.refl _ _ | assumption | refine Below.alloc ?_ (by simp [size_ext]; try omega) _ | refine Below.ext ?_ (by simp [size_ext]; try omega) _ | refine Below.drew ?_ | refine Below.setCell ?_ (by simp [size_ext]; try omega) _))).mono ?_; rintro e _ ⟨rfl, ux, rfl⟩))
     go_roundw
     case rel => exact ⟨n + 1, by go_num, by omega, by omega, HB2.out.trans ((show Below w2.heap.size w2 _ from (by repeat (first | exact Below.refl _ _ | assumption | refine Below.alloc ?_ (by simp [size_ext]; try omega) _ | refine Below.ext ?_ (by simp [size_ext]; try omega) _ | refine Below.drew ?_ | refine Below.setCell ?_ (by simp [size_ext]; try omega) _))).mono hbz)⟩
     case measure => simp [intOf]; omega
  ·have ni : ¬ (n : Int) < 67 := by omega
   obtain ⟨i1, hi1, hy1, hy2, hy3⟩ := info_parts (show (Tryz.prog.info? 5).map (fun i => (i.zero, i.size, i.bytes)) = some (some (.int .u8 0), 1, 1) by kernel_rfl)
   have HI1 := hide hi1; have HY1 := hide hy1; have HY2 := hide hy2; have HY3 := hide hy3
   clear hi1 hy1 hy2 hy3
   go_wp2_with (at_make; refine wpList_make_row _ rfl _ _ 59 rfl 5 i1 _ Tryz.underlying59 HI1.out HY1.out HY2.out rfl _ _ 262145 rfl rfl (by rw [HY3.out]; omega) (by omega) ?_)
   have HSP0 := hide (SpRow.made w1 262145 5)
   have HBX := hide (HBW.out.alloc HBW.out.size (.cells (madeCells #[.int .u8 0] 262145) 5))
   obtain ⟨X, hX⟩ : ∃ X, w1.alloc (.cells (madeCells #[.int .u8 0] 262145) 5) = X := ⟨_, rfl⟩
   rw [hX] at HSP0 HBX
   rw [hX]
   obtain ⟨mb, hmb⟩ : ∃ mb, w1.heap.size = mb := ⟨_, rfl⟩
   have hwm : w.heap.size ≤ mb := by have := HBWZ.out; omega
   rw [hmb] at HSP0
   rw [hmb]
   clear hmb hX
   go_wp2_with fail
   go_loopw [6] (fun a wr => ∃ i : Nat, a = .int .i64 i ∧ i ≤ 262145 ∧ SpRow wr mb 262145 i ∧ Below w.heap.size w wr) (fun a _ => 262145 - (intOf a).toNat)
   case atStart => exact ⟨0, rfl, by omega, HSP0.out, HBX.out⟩
   case round =>
    obtain ⟨w3, rfl⟩ : ∃ V, V = wr := ⟨_, rfl⟩
    obtain ⟨i, rfl, hi, hsp, hb3⟩ := hrel
    have HSP := hide hsp
    have HB3 := hide hb3
    have hbz := hsp.lt
    clear hsp hb3 HSP0 HBX
    by_cases hli : i < 262145
    ·obtain ⟨y0, hy0⟩ : ∃ y0 : Int, (if i < i then 32 else 0) = y0 := ⟨_, rfl⟩
     have hcu := HSP.out.cell i hli
     rw [hy0] at hcu
     clear hy0
     have hfu := HSP.out.frz i
     have HST := hide (HSP.out.step hli)
     have hli2 : (i : Int) < 262145 := by omega
     go_wp2_with fail
     go_roundw
     case rel => exact ⟨i + 1, by go_num, by omega, HST.out, HB3.out.setCell (by show w.heap.size ≤ mb; exact hwm) _⟩
     case measure => simp [intOf]; omega
    ·have hli2 : ¬ (i : Int) < 262145 := by omega
     have hin : i = 262145 := by omega
     rw [hin] at HSP
     clear hin hli ni hlt
     have hL : tLongA.data.toList.length = 16 := rfl
     obtain ⟨Wc, hWc⟩ : ∃ W, w3.setCells mb 0 (tLongA.data.toList.map fun x => Value.int .u8 (x.toNat : Int)) = W := ⟨_, rfl⟩
     have hcp : ∀ ty, (Builtin.copy_ #[59, 9] ty #[.slice (some ⟨mb, 0, none⟩) 262145 262145, .string ⟨#[102, 117, 110, 10, 98, 108, 111, 99, 107, 32, 48, 10, 116, 114, 97, 112]⟩]).run Tryz.prog w3 = .ok (goInt 16) Wc := fun ty => by
      rw [← hWc]
      exact run_copy_string (P := Tryz.prog) w3 59 9 ty 5 mb 0 262145 262145 tLongA Tryz.underlying59 (fun w => by simp [Go.sizeOf, typeInfo, HI1.out, HY2.out]) (by show 16 ≤ 262145; omega) (fun j hj => by rw [Nat.zero_add, HSP.out.cell j (by have h2 : j < 16 := hj; omega)]; rfl) (fun j hj => HSP.out.frz _)
     have HBY := hide (show ByRow Wc mb 262145 tLongA.data.toList from hWc ▸ HSP.out.text _ (by rw [hL]; decide))
     have HBC := hide (show Below w.heap.size w Wc from hWc ▸ below_setCells4 hwm _ _ _ HB3.out)
     clear hWc HB3 HSP hbz
     obtain ⟨S1, hS1⟩ : ∃ S, (⟨(tLongA.data.toList.drop 0).toArray⟩ : ByteArray) ++ spaces4 262129 = S := ⟨_, rfl⟩
     obtain ⟨S2, hS2⟩ : ∃ S, (⟨(tLongA.data.toList.drop 1).toArray⟩ : ByteArray) ++ spaces4 262128 = S := ⟨_, rfl⟩
     obtain ⟨S3, hS3⟩ : ∃ S, (⟨(tLongA.data.toList.drop 0).toArray⟩ : ByteArray) ++ spaces4 262128 = S := ⟨_, rfl⟩
     have p1 : parse04 false S1 = (⟨[], []⟩, 0, 0, 3) := by
      unfold parse04
      rw [if_pos (by rw [← hS1, ByteArray.size_append, spaces4_size]; show 262144 < 16 + 262129; omega)]
     obtain ⟨l2, k2, p2'⟩ := parseB
     have p2 : parse04 false S2 = (⟨[], []⟩, l2, k2, 7) := by
      rw [← hS2, ← p2']
      exact parse_trail readB (n := 262128) (by show 15 + 262128 ≤ _; omega) false
     obtain ⟨f3, p3', hf3⟩ := parseA
     have p3 : parse04 false S3 = (f3, 0, 0, 0) := by
      rw [← hS3, ← p3']
      exact parse_trail readA (n := 262128) (by show 16 + 262128 ≤ _; omega) false
     have HF3 := hide hf3
     have HT1 := hide (fun (W : World) (h : ByRow W mb 262145 tLongA.data.toList) => show (convert 59 9 (.slice (some ⟨mb, 0, none⟩) 262145 262145)).run Tryz.prog W = .ok (.string S1) W from by
      have := h.str (P := Tryz.prog) 59 9 5 Tryz.underlying59 Tryz.underlying5 Tryz.underlying9 0 262145 262145 (by omega) (by rw [hL]; omega) (by omega)
      rw [this, ← hS1, hL])
     have HT2 := hide (fun (W : World) (h : ByRow W mb 262145 tLongA.data.toList) => show (convert 59 9 (.slice (some ⟨mb, 1, none⟩) 262143 262144)).run Tryz.prog W = .ok (.string S2) W from by
      have := h.str (P := Tryz.prog) 59 9 5 Tryz.underlying59 Tryz.underlying5 Tryz.underlying9 1 262143 262144 (by rw [hL]; omega) (by rw [hL]; omega) (by omega)
      rw [this, ← hS2, hL])
     have HT3 := hide (fun (W : World) (h : ByRow W mb 262145 tLongA.data.toList) => show (convert 59 9 (.slice (some ⟨mb, 0, none⟩) 262144 262145)).run Tryz.prog W = .ok (.string S3) W from by
      have := h.str (P := Tryz.prog) 59 9 5 Tryz.underlying59 Tryz.underlying5 Tryz.underlying9 0 262144 262145 (by omega) (by rw [hL]; omega) (by omega)
      rw [this, ← hS3, hL])
     have HP1 := hide (show Calls Tryz.prog 14 #[.string S1] Wc (FncP (⟨[], []⟩, 0, 0, 3) Wc) from p1 ▸ HPP.out S1 Wc HBC.out)
     have HPB := hide (fun (W : World) (hW : Below w.heap.size w W) => show Calls Tryz.prog 14 #[.string S2] W (FncP (⟨[], []⟩, l2, k2, 7) W) from p2 ▸ HPP.out S2 W hW)
     have HPC := hide (fun (W : World) (hW : Below w.heap.size w W) => show Calls Tryz.prog 14 #[.string S3] W (FncP (f3, 0, 0, 0) W) from p3 ▸ HPP.out S3 W hW)
     clear hS1 hS2 hS3 p1 p2 p3 p2' p3' hf3 hL
     have HCP := hide hcp
     clear hcp
     go_upto_region 17 with fail
     have hcp := HCP.out
     go_upto_region 18 with fail
     have hcv1 := HT1.out Wc HBY.out
     clear hcp HCP
     go_upto_region 19 with (go_at_call 14; (with_reducible refine HP1.out.mono ?_); rintro e V1 ⟨A1, n1, k1, B1, m1, j1, rfl, hp, hb, hw⟩; dsimp only at hp hb ⊢; have HSB1 := hide hb.len; have HSW1 := hide hw; clear hp hb hw)
     obtain ⟨D1, hD1⟩ : ∃ D, V1.heap.size = D := ⟨_, rfl⟩
     obtain ⟨X1, hX1⟩ : ∃ W, V1.alloc (.cells #[.slice A1 n1 k1, .slice B1 m1 j1] 25) = W := ⟨_, rfl⟩
     rw [hX1]
     try rw [hD1]
     have HBX1 := hide (show Below Wc.heap.size Wc X1 from by rw [← hX1]; exact HSW1.out.alloc HSW1.out.size _)
     have HRD1 := hide (show X1.heap[D1]? = some (.cells #[.slice A1 n1 k1, .slice B1 m1 j1] 25 (0, 0)) from by rw [← hX1, ← hD1]; exact heap_alloc_new V1 _)
     have HBW1 := hide (show Below w.heap.size w X1 from HBC.out.trans (HBX1.out.mono HBC.out.size))
     have dl1 : D1 < X1.heap.size := (Array.getElem?_eq_some_iff.1 HRD1.out).1
     clear hX1 hD1 HP1 HSW1 hcv1
     have HY1' := hide (HBY.out.below HBX1.out)
     have hcv2 := HT2.out X1 HY1'.out
     have HP2 := hide (HPB.out X1 HBW1.out)
     go_upto_region 20 with (go_at_call 14; (with_reducible refine HP2.out.mono ?_); rintro e V2 ⟨A2, n2, k2, B2, m2, j2, rfl, hp, hb, hw⟩; dsimp only at hp hb ⊢; have HSB2 := hide hb.len; have HSW2 := hide hw; clear hp hb hw)
     obtain ⟨D2, hD2⟩ : ∃ D, V2.heap.size = D := ⟨_, rfl⟩
     obtain ⟨X2, hX2⟩ : ∃ W, V2.alloc (.cells #[.slice A2 n2 k2, .slice B2 m2 j2] 25) = W := ⟨_, rfl⟩
     rw [hX2]
     try rw [hD2]
     have HBX2 := hide (show Below X1.heap.size X1 X2 from by rw [← hX2]; exact HSW2.out.alloc HSW2.out.size _)
     have HRD2 := hide (show X2.heap[D2]? = some (.cells #[.slice A2 n2 k2, .slice B2 m2 j2] 25 (0, 0)) from by rw [← hX2, ← hD2]; exact heap_alloc_new V2 _)
     have HBW2 := hide (show Below w.heap.size w X2 from HBW1.out.trans (HBX2.out.mono HBW1.out.size))
     have dl2 : D2 < X2.heap.size := (Array.getElem?_eq_some_iff.1 HRD2.out).1
     clear hX2 hD2 HP2 HSW2 hcv2
     have HY2' := hide (HY1'.out.below HBX2.out)
     have hcv3 := HT3.out X2 HY2'.out
     have HP3 := hide (HPC.out X2 HBW2.out)
     go_upto_region 21 with (go_at_call 14; (with_reducible refine HP3.out.mono ?_); rintro e V3 ⟨A3, n3, k3, B3, m3, j3, rfl, hp, hb, hw⟩; dsimp only at hp hb ⊢; have HSB3 := hide hb.len; have HSW3 := hide hw; clear hp hb hw)
     obtain ⟨D3, hD3⟩ : ∃ D, V3.heap.size = D := ⟨_, rfl⟩
     obtain ⟨X3, hX3⟩ : ∃ W, V3.alloc (.cells #[.slice A3 n3 k3, .slice B3 m3 j3] 25) = W := ⟨_, rfl⟩
     rw [hX3]
     try rw [hD3]
     have HBX3 := hide (show Below X2.heap.size X2 X3 from by rw [← hX3]; exact HSW3.out.alloc HSW3.out.size _)
     have HRD3 := hide (show X3.heap[D3]? = some (.cells #[.slice A3 n3 k3, .slice B3 m3 j3] 25 (0, 0)) from by rw [← hX3, ← hD3]; exact heap_alloc_new V3 _)
     have HBW3 := hide (show Below w.heap.size w X3 from HBW2.out.trans (HBX3.out.mono HBW2.out.size))
     have dl3 : D3 < X3.heap.size := (Array.getElem?_eq_some_iff.1 HRD3.out).1
     clear hX3 hD3 HP3 HSW3 hcv3
     have HR2 := hide ((HBX3.out.block D2 dl2).trans HRD2.out)
     have e2 : m2 = 0 := HSB2.out.symm
     have e3 : m3 = 1 := HSB3.out.symm.trans HF3.out
     subst e2 e3
     have c21 : X3.cell? ⟨D2, 1, none⟩ = some (.slice B2 0 j2) := cell_of_row X3 D2 _ _ _ (0, 0) HR2.out
     have c31 : X3.cell? ⟨D3, 1, none⟩ = some (.slice B3 1 j3) := cell_of_row X3 D3 _ _ _ (0, 0) HRD3.out
     have dl23 : D2 < X3.heap.size := by have := HBX3.out.size; omega
     go_wp2_with fail
     go_ret
     exact RetX.b rfl HBW3.out
end Go.Proofs.YtljglhaeonbfoaaGreatDoor
