/- Lists of numbers that lie apart: the kit's ApartInts. Printed by gen_ap4.py. -/
import Derived.Test.YthmglmmafgdmhaaGreatAP4
set_option linter.unusedSimpArgs false
set_option linter.unusedVariables false
namespace Go.Proofs.YthmglmmafgdmhaaGreat
open Go.RowKit

set_option maxRecDepth 100000 in
set_option maxHeartbeats 800000 in
theorem apartInts_any (w : World) (B : Nat) (S : Nat → Prop) (A : Option Addr) (n c : Nat) (hs : List Hdr) (f : Nat → List Int) (hF : FlatAt w w B S A n c hs f) (hB : B ≤ w.heap.size) (hn : n ≤ 1000) (hm : ∀ (k : Nat) (h : Hdr), hs[k]? = some h → h.n ≤ 1000000) :
    Calls Tryz.prog 14 #[.slice A n c] w (fun e w' => e = .returned (.bool true) ∧ Below B w w') := by
  have HF := hide hF; have HM := hide hm
  have HL := hide hF.ls.len
  clear hm hF
  obtain ⟨gb, hgb⟩ : ∃ gb, w.heap.size = gb := ⟨_, rfl⟩
  obtain ⟨X, hX⟩ : ∃ X, w.alloc (.cells #[.slice none 0 0, .slice none 0 0, .slice none 0 0, .slice none 0 0, .slice none 0 0, .slice none 0 0, .slice none 0 0, .slice none 0 0, .slice none 0 0, .slice none 0 0, .slice none 0 0, .slice none 0 0, .slice none 0 0, .slice none 0 0, .slice none 0 0, .slice none 0 0, .slice none 0 0] 83) = X := ⟨_, rfl⟩
  have HBG := hide (show BagAt X gb (Hdr.mk none 0 0).v by rw [← hX, ← hgb]; exact heap_alloc_new w _)
  have HBX := hide (show Below gb w X by rw [← hX, ← hgb]; exact (Below.refl _ _).alloc (Nat.le_refl _) _)
  have HSX := hide (show X.heap.size = gb + 1 by rw [← hX, ← hgb]; simp)
  have HGB := hide hgb
  have HON := hide (show OwnL X (gb + 1) 22 (fun _ => False) (Hdr.mk none 0 0).v (hs.take 0) from OwnL.nil_ X (gb + 1) 22 (fun _ => False))
  go_enter Tryz.func14, Tryz.ntmps14
  go_wp2_with fail
  clear hgb
  have HXQ := hide hX
  clear hX
  go_loopw [4] (fun a wr => ∃ (k : Nat) (bg : Hdr), a = .int .i64 k ∧ k ≤ n ∧ BagAt wr gb bg.v ∧ OwnL wr (gb + 1) 22 (fun _ => False) bg.v (hs.take k) ∧ Below gb w wr) (fun a _ => n - (intOf a).toNat)
  case atStart => exact ⟨0, ⟨none, 0, 0⟩, rfl, Nat.zero_le _, HBG.out, HON.out, HBX.out⟩
  case round =>
    obtain ⟨k, bg, rfl, hk, hbg, hob, hbw⟩ := hrel
    have hFw : FlatAt w wr B S A n c hs f := HF.out.belowAll hB (HGB.out.symm ▸ hbw)
    have hlb : gb < wr.heap.size := hbg.lt
    by_cases hlt : k < n
    · obtain ⟨b, off, h, hA, hb, hSb, hh, hc⟩ := at_hdr hFw.ls hlt
      subst hA
      have HH := hide hh
      have HPI := hide (putInts_any wr gb (gb + 1) bg h (hs.take k) hbg (by omega) (by omega) hob (by rw [List.length_take]; omega))
      have HBW := hide hbw
      clear hFw hbg hob hbw hh
      go_wp2_with (go_at_call 38; refine HPI.out.mono ?_; rintro e w2 ⟨rfl, bg2, hbg2, hob2, hbw2⟩; have H2 := hide (And.intro hbg2 (And.intro (show OwnL w2 (gb + 1) 22 (fun _ => False) bg2.v (hs.take (k + 1)) by rw [List.take_add_one, HH.out]; exact hob2) (HBW.out.trans hbw2))); clear hbg2 hob2 hbw2)
      clear hc hb hlb
      go_roundw
      case rel => exact ⟨k + 1, bg2, by go_num, by omega, H2.out.1, H2.out.2.1, H2.out.2.2⟩
      case measure => simp [intOf]; omega
    · have hkn : k = n := by omega
      subst hkn
      have hlm : (hs.take k) = hs := List.take_of_length_le (by rw [HL.out]; exact Nat.le_refl _)
      rw [hlm] at hob
      obtain ⟨A', c', e⟩ := hob.form
      rw [HL.out] at e
      rw [e] at hob hbg
      have HAP := hide (apart_any wr gb B (fun b => gb ≤ b ∧ b < wr.heap.size) A' k c' hs f hbg ⟨Nat.le_refl _, hlb⟩ ⟨hob.sl (fun b hb h => by rcases h with h | h; exact h.elim; exact ⟨by omega, hb⟩), hFw.rows, fun j x g hj hg hs => by have := (HF.out.rows.lt hj hg).2; have := HGB.out; omega, Below.refl _ _, fun b h => h.2, fun _ _ => rfl⟩ (by have := HGB.out; omega) hn HM.out)
      have HBW := hide (hbw.mono (show B ≤ gb by have := HGB.out; omega))
      clear hFw hbg hob hbw hlm e
      go_wp2_with (go_at_call 39; refine HAP.out.mono ?_; rintro e w2 ⟨rfl, hb2⟩)
      go_ret
      exact ⟨rfl, HBW.out.trans hb2⟩
end Go.Proofs.YthmglmmafgdmhaaGreat
