/- WordBack: its walk. -/
import Derived.Test.YtmlopggainkoiaaDoorPB4
import Derived.Test.YtmlopggainkoiaaDoorSH5
set_option linter.unusedSimpArgs false
set_option linter.unusedVariables false
namespace Go.Proofs.YtmlopggainkoiaaDoor
open Go.RowKit

/-- What reading returns. -/
theorem read_ok {s : ByteArray} {W : World} (hs : s.size ≤ 34359738368) (hv : VarsS W) {R : ReadR} (h : readR s = R) : Calls Tryd.prog 13 #[.string s] W (RetRd W R) := by rw [← h]; exact read_any s W hs hv.v
def RetSh (s : ByteArray) (e' : Int) (w : World) (e : Ending) (w' : World) : Prop := e = .returned (.tuple #[.string s, .int .i64 e']) ∧ ∃ u : Ext, w' = w.ext u
theorem show_none {w : World} {S : Nat → Prop} {A : Option Addr} {n c : Nat} {xs : List Word} (h : Sl w S A n c xs) (hv : VarsS w) (ht : totL xs ≤ 8589934592) (hn : showF true xs ByteArray.empty = none) : Calls Tryd.prog 19 #[.slice A n c] w (RetSh ⟨#[]⟩ 2 w) := by
  have := show_any w S A n c xs h hv ht
  rw [hn] at this; exact this
theorem show_some {w : World} {S : Nat → Prop} {A : Option Addr} {n c : Nat} {xs : List Word} (h : Sl w S A n c xs) (hv : VarsS w) (ht : totL xs ≤ 8589934592) {a : ByteArray} (hn : showF true xs ByteArray.empty = some a) : Calls Tryd.prog 19 #[.slice A n c] w (RetSh a 0 w) := by
  have := show_any w S A n c xs h hv ht
  rw [hn] at this; exact this
/-- What holds of a world behind w. -/
structure Far (w W : World) : Prop where
  b : Below w.heap.size w W
  v : VarsS W
theorem Far.ext {w W : World} (h : Far w W) (u : Ext) : Far w (W.ext u) := ⟨h.b.ext h.b.size u, h.v.ext u⟩
theorem Far.sl {w W : World} (h : Far w W) {α : Type} [Rep α] {S : Nat → Prop} {A : Option Addr} {n c : Nat} {xs : List α} (hs : Sl w S A n c xs) : Sl W S A n c xs := hs.belowAll h.b
theorem Far.to {w W : World} (h : Far w W) : ∃ u : Ext, W = w.ext u := h.b.to_ext

set_option maxRecDepth 100000 in
set_option maxHeartbeats 40000000 in
theorem wordBack_any (w : World) (S : Nat → Prop) (A : Option Addr) (n c : Nat) (xs : List Word) (s : ByteArray) (h : Sl w S A n c xs) (hv : VarsS w) (hn1 : n ≤ 140737488355328) (hs1 : s.size ≤ 140737488355328) (ht : ∀ x ∈ xs, x.text.size ≤ 140737488355328) : Calls Tryd.prog 7 #[.slice A n c, .string s] w (RetX (.bool true) w) := by
  have HS := hide h; have HV := hide hv; have HT := hide ht
  have HAW := hide (awake01_any w hv.v)
  clear h hv ht
  go_enter Tryd.func7, Tryd.ntmps7
  go_wp2_with (first | (go_at_call 12; refine HAW.out.mono ?_; rintro e _ ⟨rfl, u1, rfl⟩; refine Hd.out ?_))
  refine hide ?_
  obtain ⟨W, hW⟩ : ∃ W, w.ext u1 = W := ⟨_, rfl⟩
  have HF := hide (show Far w W by rw [← hW]; exact (Far.mk (Below.refl _ _) HV.out).ext u1)
  rw [hW]
  clear hW HAW
  go_wp2_with fail
  go_loopw [5, 6] (fun a b wr => wr = W ∧ ∃ (k t : Nat), a = .int .i64 t ∧ b = .int .i64 k ∧ k ≤ n ∧ t ≤ 562949953421312 ∧ t + totL (xs.drop k) + k = n + s.size + totL xs) (fun _ b _ => n - (intOf b).toNat)
  case atStart => exact ⟨rfl, 0, n + s.size, by go_num, rfl, Nat.zero_le _, by omega, by simp⟩
  case round =>
    obtain ⟨rfl, k, t, rfl, rfl, hk, hs0, hsum⟩ := hrel
    have HSUM := hide hsum
    clear hsum
    by_cases hbig : 4000 < t
    · go_wp2_with fail
      all_goals go_ret
      all_goals exact ⟨rfl, HF.out.to⟩
    · by_cases hlt : k < n
      · obtain ⟨b, off, x, rfl, hb, hx, i0, i1, i2, i3, i4, c0, c1, c2, c3, c4⟩ := at_Word (HF.out.sl HS.out) hlt
        have HTT := hide (totL_at hx)
        obtain ⟨kd, tx, nn, ln, cl⟩ := x
        simp only at i0 i1 i2 i3 i4 c0 c1 c2 c3 c4
        have htx : tx.size ≤ 140737488355328 := HT.out _ (List.mem_of_getElem? hx)
        have HS2 := hide (show t + tx.size + totL (xs.drop (k + 1)) + (k + 1) = n + s.size + totL xs by have := HSUM.out; rw [HTT.out] at this; dsimp only at this; omega)
        clear hx i0 i1 i2 i3 i4 HTT
        go_wp2_with fail
        go_roundw
        case rel => exact ⟨trivial, k + 1, t + tx.size, by go_num, by go_num, by omega, by omega, HS2.out⟩
        case measure => simp [intOf]; omega
      · have hk2 : k = n := by omega
        have HT2 := hide (show totL xs + s.size ≤ 4000 by have := HSUM.out; rw [drop_end HS.out.len hlt] at this; simp only [totL] at this; omega)
        have hs4 : s.size ≤ 4000 := by have := HT2.out; omega
        have hn2 : n ≤ 4000 := by have := totL_len xs; have := HS.out.len; have := HT2.out; omega
        clear HSUM hs0 hk2 hs1 hn1 HT
        have HS1 := hide (HF.out.sl HS.out)
        have HFW := HF
        cases hsh : showF true xs ByteArray.empty with
        | none =>
          have HSH := hide (show_none HS1.out HF.out.v (by have := HT2.out; omega) hsh)
          clear hsh
          go_wp2_with (first | (go_at_call 19; refine HSH.out.mono ?_; rintro e _ ⟨rfl, u2, rfl⟩; dsimp only; refine Hd.out ?_))
          refine hide ?_
          obtain ⟨X1, hX1⟩ : ∃ W, wr.ext u2 = W := ⟨_, rfl⟩
          have HFX1 := hide (show Far w X1 by rw [← hX1]; exact HF.out.ext u2)
          rw [hX1]
          clear hX1 HSH HS1 HFW
          by_cases hok : (readR s).err = 0
          · obtain ⟨ws, hlx, hR, hse, hvr, htw⟩ := read_lexes hok
            have HWS := hide (show totL ws ≤ 8000 by omega)
            have HRW := hide (show (readR s).words = ws by rw [hR])
            have HOK := hide hok
            have HR := hide (read_ok (s := s) (W := X1) (by omega) HFX1.out.v hR)
            clear hlx hR htw hok hse hvr
            go_wp2_with (first | (go_at_call 13; refine HR.out.mono ?_; rintro e _ ⟨Am, nm, cm, rfl, hSm, v1, rfl⟩; dsimp only; refine Hd.out ?_))
            refine hide ?_
            have HM0 := hide hSm
            clear hSm HR
            obtain ⟨Y1, hY1⟩ : ∃ W, X1.ext v1 = W := ⟨_, rfl⟩
            have HFY1 := hide (show Far w Y1 by rw [← hY1]; exact HFX1.out.ext v1)
            have HM := hide (show Sl Y1 (fun _ => True) Am nm cm ws by rw [← hY1]; exact HM0.out.more fun _ _ _ => trivial)
            clear HM0
            rw [hY1]
            clear hY1
            have hnm := HM.out.nle
            cases hsh : showF true ws ByteArray.empty with
            | none =>
              have HOD := hide (show ws.any oddW = true by have := back_read HOK.out (by rw [HRW.out]; exact hsh); rw [HRW.out] at this; exact this)
              have HSH := hide (show_none HM.out HFY1.out.v (by have := HWS.out; omega) hsh)
              clear hsh
              go_wp2_with (first | (go_at_call 19; refine HSH.out.mono ?_; rintro e _ ⟨rfl, v2, rfl⟩; dsimp only; refine Hd.out ?_))
              refine hide ?_
              have HO := hide (odd_any _ _ Am nm cm ws (HM.out.ext v2) HOD.out)
              go_wp2_with (first | (go_at_call 27; refine HO.out.mono ?_; rintro e _ ⟨rfl, rfl⟩))
              go_ret
              exact ⟨rfl, (HFY1.out.ext v2).to⟩
            | some bt =>
              obtain ⟨q1, q2, q3⟩ := back_shown hsh
              have HSH := hide (show_some HM.out HFY1.out.v (by have := HWS.out; omega) hsh)
              have hbz : bt.size ≤ 8000 := by have := HWS.out; omega
              clear hsh q3
              obtain ⟨Rb, hRb⟩ : ∃ R, readR bt = R := ⟨_, rfl⟩
              obtain ⟨bw, bl, bc, be⟩ := Rb
              rw [hRb] at q1 q2
              simp only at q1 q2
              subst q1
              have HQ := hide q2
              clear q2
              have HRB := hide hRb
              clear hRb
              go_wp2_with (first | (go_at_call 19; refine HSH.out.mono ?_; rintro e _ ⟨rfl, v2, rfl⟩; dsimp only; refine Hd.out ?_))
              refine hide ?_
              obtain ⟨Y2, hY2⟩ : ∃ W, Y1.ext v2 = W := ⟨_, rfl⟩
              have HFY2 := hide (show Far w Y2 by rw [← hY2]; exact HFY1.out.ext v2)
              have HM2 := hide (show Sl Y2 (fun _ => True) Am nm cm ws by rw [← hY2]; exact HM.out.ext v2)
              rw [hY2]
              clear hY2
              have HR2 := hide (read_ok (s := bt) (W := Y2) (by omega) HFY2.out.v HRB.out)
              clear HSH HM
              go_wp2_with (first | (go_at_call 13; refine HR2.out.mono ?_; rintro e _ ⟨Ao, no, co, rfl, hSo, v3, rfl⟩; dsimp only; refine Hd.out ?_))
              refine hide ?_
              have HO := hide hSo
              clear hSo HR2
              have HAL := hide (alike_eq _ _ _ Ao Am no co nm cm bw ws HO.out (HM2.out.ext v3) HQ.out)
              go_wp2_with (first | (go_at_call 14; refine HAL.out.mono ?_; rintro e _ ⟨rfl, v4, rfl⟩))
              go_ret
              exact ⟨rfl, ((HFY2.out.ext v3).ext v4).to⟩
          · obtain ⟨k1, k2, k3, k4⟩ := read_err s hok
            obtain ⟨R, hR⟩ : ∃ R, readR s = R := ⟨_, rfl⟩
            obtain ⟨rw_, rl, rc, re⟩ := R
            rw [hR] at k1 k2 k3 k4
            simp only at k1 k2 k3 k4
            subst k1
            have HR := hide (read_ok (s := s) (W := X1) (by omega) HFX1.out.v hR)
            clear hR hok
            rcases k4 with rfl | rfl
            · go_wp2_with (first | (go_at_call 13; refine HR.out.mono ?_; rintro e _ ⟨Am, nm, cm, rfl, hSm, v1, rfl⟩; dsimp only; refine Hd.out ?_))
              refine hide ?_
              obtain rfl : nm = 0 := hSm.len.symm
              clear hSm HR
              go_wp2_with fail
              go_ret
              exact ⟨rfl, (HFX1.out.ext v1).to⟩
            · go_wp2_with (first | (go_at_call 13; refine HR.out.mono ?_; rintro e _ ⟨Am, nm, cm, rfl, hSm, v1, rfl⟩; dsimp only; refine Hd.out ?_))
              refine hide ?_
              obtain rfl : nm = 0 := hSm.len.symm
              clear hSm HR
              go_wp2_with fail
              go_ret
              exact ⟨rfl, (HFX1.out.ext v1).to⟩
        | some a =>
          obtain ⟨q1, q2, q3⟩ := back_shown hsh
          have HSH := hide (show_some HS1.out HF.out.v (by have := HT2.out; omega) hsh)
          have haz : a.size ≤ 4000 := by have := HT2.out; omega
          clear hsh q3
          obtain ⟨Ra, hRa⟩ : ∃ R, readR a = R := ⟨_, rfl⟩
          obtain ⟨aw, al, ac, ae⟩ := Ra
          rw [hRa] at q1 q2
          simp only at q1 q2
          subst q1
          have HQ := hide q2
          clear q2
          have HRA := hide hRa
          clear hRa
          go_wp2_with (first | (go_at_call 19; refine HSH.out.mono ?_; rintro e _ ⟨rfl, u2, rfl⟩; dsimp only; refine Hd.out ?_))
          refine hide ?_
          obtain ⟨X2, hX2⟩ : ∃ W, wr.ext u2 = W := ⟨_, rfl⟩
          have HFX2 := hide (show Far w X2 by rw [← hX2]; exact HF.out.ext u2)
          rw [hX2]
          clear hX2 HSH HS1 HFW
          have HR2 := hide (read_ok (s := a) (W := X2) (by omega) HFX2.out.v HRA.out)
          go_wp2_with (first | (go_at_call 13; refine HR2.out.mono ?_; rintro e _ ⟨Ao, no, co, rfl, hSo, u3, rfl⟩; dsimp only; refine Hd.out ?_))
          refine hide ?_
          have HO := hide hSo
          clear hSo HR2
          have HAL := hide (alike_eq _ _ _ Ao A no co n c aw xs HO.out ((HFX2.out.sl HS.out).ext u3) HQ.out)
          go_wp2_with (first | (go_at_call 14; refine HAL.out.mono ?_; rintro e _ ⟨rfl, u4, rfl⟩; dsimp only; refine Hd.out ?_))
          refine hide ?_
          obtain ⟨X1, hX1⟩ : ∃ W, (X2.ext u3).ext u4 = W := ⟨_, rfl⟩
          have HFX1 := hide (show Far w X1 by rw [← hX1]; exact (HFX2.out.ext u3).ext u4)
          rw [hX1]
          clear hX1 HO HAL HQ HRA
          by_cases hok : (readR s).err = 0
          · obtain ⟨ws, hlx, hR, hse, hvr, htw⟩ := read_lexes hok
            have HWS := hide (show totL ws ≤ 8000 by omega)
            have HRW := hide (show (readR s).words = ws by rw [hR])
            have HOK := hide hok
            have HR := hide (read_ok (s := s) (W := X1) (by omega) HFX1.out.v hR)
            clear hlx hR htw hok hse hvr
            go_wp2_with (first | (go_at_call 13; refine HR.out.mono ?_; rintro e _ ⟨Am, nm, cm, rfl, hSm, v1, rfl⟩; dsimp only; refine Hd.out ?_))
            refine hide ?_
            have HM0 := hide hSm
            clear hSm HR
            obtain ⟨Y1, hY1⟩ : ∃ W, X1.ext v1 = W := ⟨_, rfl⟩
            have HFY1 := hide (show Far w Y1 by rw [← hY1]; exact HFX1.out.ext v1)
            have HM := hide (show Sl Y1 (fun _ => True) Am nm cm ws by rw [← hY1]; exact HM0.out.more fun _ _ _ => trivial)
            clear HM0
            rw [hY1]
            clear hY1
            have hnm := HM.out.nle
            cases hsh : showF true ws ByteArray.empty with
            | none =>
              have HOD := hide (show ws.any oddW = true by have := back_read HOK.out (by rw [HRW.out]; exact hsh); rw [HRW.out] at this; exact this)
              have HSH := hide (show_none HM.out HFY1.out.v (by have := HWS.out; omega) hsh)
              clear hsh
              go_wp2_with (first | (go_at_call 19; refine HSH.out.mono ?_; rintro e _ ⟨rfl, v2, rfl⟩; dsimp only; refine Hd.out ?_))
              refine hide ?_
              have HO := hide (odd_any _ _ Am nm cm ws (HM.out.ext v2) HOD.out)
              go_wp2_with (first | (go_at_call 27; refine HO.out.mono ?_; rintro e _ ⟨rfl, rfl⟩))
              go_ret
              exact ⟨rfl, (HFY1.out.ext v2).to⟩
            | some bt =>
              obtain ⟨q1, q2, q3⟩ := back_shown hsh
              have HSH := hide (show_some HM.out HFY1.out.v (by have := HWS.out; omega) hsh)
              have hbz : bt.size ≤ 8000 := by have := HWS.out; omega
              clear hsh q3
              obtain ⟨Rb, hRb⟩ : ∃ R, readR bt = R := ⟨_, rfl⟩
              obtain ⟨bw, bl, bc, be⟩ := Rb
              rw [hRb] at q1 q2
              simp only at q1 q2
              subst q1
              have HQ := hide q2
              clear q2
              have HRB := hide hRb
              clear hRb
              go_wp2_with (first | (go_at_call 19; refine HSH.out.mono ?_; rintro e _ ⟨rfl, v2, rfl⟩; dsimp only; refine Hd.out ?_))
              refine hide ?_
              obtain ⟨Y2, hY2⟩ : ∃ W, Y1.ext v2 = W := ⟨_, rfl⟩
              have HFY2 := hide (show Far w Y2 by rw [← hY2]; exact HFY1.out.ext v2)
              have HM2 := hide (show Sl Y2 (fun _ => True) Am nm cm ws by rw [← hY2]; exact HM.out.ext v2)
              rw [hY2]
              clear hY2
              have HR2 := hide (read_ok (s := bt) (W := Y2) (by omega) HFY2.out.v HRB.out)
              clear HSH HM
              go_wp2_with (first | (go_at_call 13; refine HR2.out.mono ?_; rintro e _ ⟨Ao, no, co, rfl, hSo, v3, rfl⟩; dsimp only; refine Hd.out ?_))
              refine hide ?_
              have HO := hide hSo
              clear hSo HR2
              have HAL := hide (alike_eq _ _ _ Ao Am no co nm cm bw ws HO.out (HM2.out.ext v3) HQ.out)
              go_wp2_with (first | (go_at_call 14; refine HAL.out.mono ?_; rintro e _ ⟨rfl, v4, rfl⟩))
              go_ret
              exact ⟨rfl, ((HFY2.out.ext v3).ext v4).to⟩
          · obtain ⟨k1, k2, k3, k4⟩ := read_err s hok
            obtain ⟨R, hR⟩ : ∃ R, readR s = R := ⟨_, rfl⟩
            obtain ⟨rw_, rl, rc, re⟩ := R
            rw [hR] at k1 k2 k3 k4
            simp only at k1 k2 k3 k4
            subst k1
            have HR := hide (read_ok (s := s) (W := X1) (by omega) HFX1.out.v hR)
            clear hR hok
            rcases k4 with rfl | rfl
            · go_wp2_with (first | (go_at_call 13; refine HR.out.mono ?_; rintro e _ ⟨Am, nm, cm, rfl, hSm, v1, rfl⟩; dsimp only; refine Hd.out ?_))
              refine hide ?_
              obtain rfl : nm = 0 := hSm.len.symm
              clear hSm HR
              go_wp2_with fail
              go_ret
              exact ⟨rfl, (HFX1.out.ext v1).to⟩
            · go_wp2_with (first | (go_at_call 13; refine HR.out.mono ?_; rintro e _ ⟨Am, nm, cm, rfl, hSm, v1, rfl⟩; dsimp only; refine Hd.out ?_))
              refine hide ?_
              obtain rfl : nm = 0 := hSm.len.symm
              clear hSm HR
              go_wp2_with fail
              go_ret
              exact ⟨rfl, (HFX1.out.ext v1).to⟩
end Go.Proofs.YtmlopggainkoiaaDoor
