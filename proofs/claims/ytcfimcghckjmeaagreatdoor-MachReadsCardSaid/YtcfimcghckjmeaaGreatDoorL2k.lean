/- law02: the document's Over. -/
import Derived.Test.YtcfimcghckjmeaaGreatDoorL2i
import Derived.Test.YtcfimcghckjmeaaGreatDoorL2j
import Derived.Test.YtcfimcghckjmeaaGreatDoorG9
set_option linter.unusedSimpArgs false
set_option linter.unusedVariables false
namespace Go.Proofs.YtcfimcghckjmeaaGreatDoor
open Go.RowKit

theorem compK_last : ∀ (l : List Word) (b : Bool), lastE b l = (match (compK b l).getLast? with | some y => endW y | none => b)
  | [], _ => rfl
  | x :: l, b => by
    rw [compK_cons]
    show lastE (endW x) l = _
    by_cases h : b = true ∧ endW x = true
    · rw [if_pos h, h.2, compK_last l true, h.1]
    · rw [if_neg h, compK_last l (endW x)]
      cases hc : compK (endW x) l with
      | nil => rfl
      | cons y r =>
        rw [List.getLast?_cons_cons]
        cases hd : (y :: r).getLast? with
        | none => simp at hd
        | some z => rfl
theorem endW_kind {x : Word} (h : x.kind = 1 ∨ x.kind = 2 ∨ x.kind = 3 ∨ x.kind = 4) : endW x = (x.kind == 4) := by
  unfold endW hasW
  rcases h with h | h | h | h <;> rw [h] <;> rfl
def OverD (s : ByteArray) (w : World) (e : Ending) (w' : World) : Prop := ∃ c, e = .returned (.pointer (some ⟨c, 0, none⟩)) ∧ DocAt w' (fun b => w.heap.size ≤ b ∧ b < c) c (overT s) ∧ w.heap.size ≤ c ∧ Below w.heap.size w w'

set_option maxRecDepth 100000 in
set_option maxHeartbeats 40000000 in
theorem dOver1 (s : ByteArray) (w : World) (hs : s.size ≤ 17179869184) : Calls Tryz.prog 32 #[.string s] w (OverD s w) := by
  obtain ⟨i0, hi, hz, hz1, hz2⟩ := info_parts info_Word1
  have HI0 := hide hi; have HZ := hide hz; have HZ1 := hide hz1; have HZ2 := hide hz2
  clear hi hz hz1 hz2
  have hk := fun x hx => (read_kinds s) x hx
  have hcnt := read_count s (by omega)
  obtain ⟨R, hR⟩ : ∃ R, readR s = R := ⟨_, rfl⟩
  have HR := hide (show Calls Tryz.prog 60 #[.string s] w (RetRd w R) by rw [← hR, readR_ref]; exact read1_any s w hs)
  have HRR := hide hR
  have HK := hide (show ∀ x ∈ R.words, x.kind = 1 ∨ x.kind = 2 ∨ x.kind = 3 ∨ x.kind = 4 by rw [← hR]; exact hk)
  have HCNT := hide (show R.words.length ≤ 1099511627776 by rw [← hR]; exact hcnt)
  clear hR hk hcnt
  obtain ⟨ws, rl, rc, re⟩ := R
  simp only at HK HCNT
  go_enter Tryz.func32, Tryz.ntmps32
  go_wp2_with (first | (go_at_call 60; refine HR.out.mono ?_; rintro e _ ⟨A1, n, c1, rfl, hS1, u1, rfl⟩; dsimp only; refine Hd.out ?_))
  refine hide ?_
  obtain ⟨W1, hW1⟩ : ∃ W', w.ext u1 = W' := ⟨_, rfl⟩
  have HB1 := hide (show Below w.heap.size w W1 by rw [← hW1]; exact (Below.refl _ _).ext (Nat.le_refl _) u1)
  have HS1 := hide (show Sl W1 (fun b => b < W1.heap.size) A1 n c1 ws by rw [← hW1] at *; exact hS1.more fun b hb h => hb)
  have hsz1 : w.heap.size ≤ W1.heap.size := HB1.out.size
  rw [hW1]
  have hn := HS1.out.nle
  clear hW1 hS1 HR
  by_cases he : re = 0
  · subst he
    have HOV := hide (show overT s = ⟨dropEnd (compK true ws), 0, 0, 0⟩ by unfold overT; rw [HRR.out]; exact if_neg (by simp))
    go_wp2_with fail
    go_loopw [7, 8] (fun o i wr => ∃ (k na ca : Nat) (Ao : Option Addr), o = .slice Ao na ca ∧ i = .int .i64 k ∧ k ≤ n ∧ OwnL wr W1.heap.size 123 (fun _ => False) (.slice Ao na ca) (compK true (ws.take k)) ∧ (compK true (ws.take k)).length = na ∧ Below W1.heap.size W1 wr) (fun _ i _ => n - (intOf i).toNat)
    case atStart => exact ⟨0, 0, 0, none, rfl, rfl, Nat.zero_le _, OwnL.nil_ _ _ _ _, rfl, Below.refl _ _⟩
    case round =>
      obtain ⟨k, na, ca, Ao, rfl, rfl, hk, hown, hna, hb⟩ := hrel
      have HO := hide hown; have HNA := hide hna; have HB := hide hb
      have hszr : W1.heap.size ≤ wr.heap.size := hb.size
      have hna9 := (hown.sl (S' := fun _ => True) (fun _ _ _ => trivial)).nle
      clear hown hna hb
      by_cases hlt : k < n
      · obtain ⟨b, off, x, rfl, hbb, hx, j0, j1, j2, j3, j4, c0, c1', c2, c3, c4⟩ := at_Word (HS1.out.below HB.out (fun b h => h)) hlt
        have HX := hide hx
        have hxk := HK.out x (List.mem_of_getElem? hx)
        have HEX := hide (endW_kind hxk)
        have HST := hide (show compK true (ws.take (k + 1)) = compK true (ws.take k) ++ if lastE true (ws.take k) = true ∧ endW x = true then [] else [x] by rw [take_at hx, compK_snoc])
        have HLA := hide (compK_last (ws.take k) true)
        have HY := hide (show ∀ W, Rep.is W (fun _ => False) x [.int .i64 x.kind, .string x.text, .int .i64 x.n, .int .i64 x.line, .int .i64 x.col] from fun W => Word.mk_ j0 j1 j2 j3 j4)
        have HLEN := hide (show (compK true (ws.take k)).length ≤ 1099511627776 by have := compK_len (ws.take k) true; have := HCNT.out; rw [List.length_take] at *; omega)
        obtain ⟨kd, tx, nn, ln, cl⟩ := x
        simp only at c0 c1' c2 c3 c4 HEX HY
        clear hx hxk j0 j1 j2 j3 j4
        by_cases h4 : kd = 4
        · subst h4
          have hE : endW ⟨4, tx, nn, ln, cl⟩ = true := HEX.out
          rcases List.eq_nil_or_concat (compK true (ws.take k)) with hnil | ⟨l2, y, hcat⟩
          · have hL : lastE true (ws.take k) = true := by rw [HLA.out, hnil]; rfl
            have hna0 : na = 0 := by rw [← HNA.out, hnil]; rfl
            subst hna0
            have HC := hide (show lastE true (ws.take k) = true ∧ endW ⟨4, tx, nn, ln, cl⟩ = true from ⟨hL, hE⟩)
            clear hnil hE hL
            go_wp2_with fail
            go_roundw
            case rel =>
              have e := HST.out
              rw [if_pos HC.out, List.append_nil] at e
              exact ⟨k + 1, _, _, _, rfl, by go_num, by omega, by rw [e]; exact HO.out, by rw [e]; exact HNA.out, HB.out⟩
            case measure => simp [intOf]; omega
          · rw [List.concat_eq_append] at hcat
            have hna1 : na = l2.length + 1 := by rw [← HNA.out, hcat]; simp
            obtain ⟨b', off', y', rfl, hbb', hy', _, _, _, _, _, d0, _⟩ := at_Word (HO.out.sl (S' := fun _ => True) (fun _ _ _ => trivial)) (k := na - 1) (by omega)
            have hyy : y' = y := by rw [hcat, hna1] at hy'; simp at hy'; exact hy'.symm
            subst hyy
            have hyk := endW_kind (HK.out y' (List.mem_of_mem_take (compK_mem _ _ y' (by rw [hcat]; simp))))
            have HLL := hide (show lastE true (ws.take k) = endW y' by rw [HLA.out, hcat]; simp)
            have hpos : 0 < na := by omega
            have HN1 := hide hna1
            by_cases hy4 : y'.kind = 4
            · rw [hy4] at d0
              have HC := hide (show lastE true (ws.take k) = true ∧ endW ⟨4, tx, nn, ln, cl⟩ = true from ⟨by rw [HLL.out, hyk, hy4]; rfl, hE⟩)
              clear hcat hE hyk hy' hna1 hy4
              go_wp2_with fail
              go_roundw
              case rel =>
                have e := HST.out
                rw [if_pos HC.out, List.append_nil] at e
                exact ⟨k + 1, _, _, _, rfl, by go_num, by omega, by rw [e]; exact HO.out, by rw [e]; exact HNA.out, HB.out⟩
              case measure => simp [intOf]; omega
            · have HC := hide (show ¬ lastE true (ws.take k) = true by rw [HLL.out, hyk]; simp [hy4])
              clear hcat hE hyk hy' hna1
              go_wp2_with (at_builtin; refine wpList_push (α := Word) wr [.int .i64 4, .string tx, .int .i64 nn, .int .i64 ln, .int .i64 cl] 123 rfl (.tmp 50) (.tmp 55) 117 rfl W1.heap.size 123 i0 _ 48 Tryz.underlying117 HI0.out HZ.out HZ1.out HZ2.out rfl (by decide) (fun _ => False) (fun _ => False) (.slice (some ⟨b', off', none⟩) na ca) (compK true (ws.take k)) ⟨4, tx, nn, ln, cl⟩ rfl HO.out _ rfl rfl (HY.out _) (fun _ h => h) (fun _ _ h => h) (fun _ h => h.elim) (by have := HLEN.out; omega) (by have := HLEN.out; omega) hszr ?_)
              intro v' w1' hown' hg hrow
              have HBB := hide ((HB.out.alloc hszr (.cells #[.int .i64 4, .string tx, .int .i64 nn, .int .i64 ln, .int .i64 cl] 123)).grown hg (by simp; omega) (fun g e => (HO.out.below_ g e).1))
              have HOW := hide hown'
              obtain ⟨Av, cv, hv⟩ := hown'.form
              subst hv
              clear hown' hg hrow
              go_wp2_with fail
              go_roundw
              case rel =>
                have e := HST.out
                rw [if_neg (by exact fun c => HC.out c.1)] at e
                have hw := HOW.out
                rw [← e] at hw
                exact ⟨k + 1, _, cv, Av, rfl, by go_num, by omega, by rw [e] at hw ⊢; exact hw, by rw [e], HBB.out⟩
              case measure => simp [intOf]; omega
        · have HC := hide (show ¬ endW ⟨kd, tx, nn, ln, cl⟩ = true by rw [HEX.out]; simp [h4])
          go_wp2_with (at_builtin; refine wpList_push (α := Word) wr [.int .i64 kd, .string tx, .int .i64 nn, .int .i64 ln, .int .i64 cl] 123 rfl (.tmp 50) (.tmp 55) 117 rfl W1.heap.size 123 i0 _ 48 Tryz.underlying117 HI0.out HZ.out HZ1.out HZ2.out rfl (by decide) (fun _ => False) (fun _ => False) (.slice Ao na ca) (compK true (ws.take k)) ⟨kd, tx, nn, ln, cl⟩ rfl HO.out _ rfl rfl (HY.out _) (fun _ h => h) (fun _ _ h => h) (fun _ h => h.elim) (by have := HLEN.out; omega) (by have := HLEN.out; omega) hszr ?_)
          intro v' w1' hown' hg hrow
          have HBB := hide ((HB.out.alloc hszr (.cells #[.int .i64 kd, .string tx, .int .i64 nn, .int .i64 ln, .int .i64 cl] 123)).grown hg (by simp; omega) (fun g e => (HO.out.below_ g e).1))
          have HOW := hide hown'
          obtain ⟨Av, cv, hv⟩ := hown'.form
          subst hv
          clear hown' hg hrow
          go_wp2_with fail
          go_roundw
          case rel =>
            have e := HST.out
            rw [if_neg (by exact fun c => HC.out c.2)] at e
            have hw := HOW.out
            rw [← e] at hw
            exact ⟨k + 1, _, cv, Av, rfl, by go_num, by omega, by rw [e] at hw ⊢; exact hw, by rw [e], HBB.out⟩
          case measure => simp [intOf]; omega
      · have hk' : k = n := by omega
        have htk : ws.take k = ws := List.take_of_length_le (by have := HS1.out.len; omega)
        rw [htk] at HO HNA
        rcases List.eq_nil_or_concat (compK true ws) with hnil | ⟨l2, y, hcat⟩
        · have hna0 : na = 0 := by rw [← HNA.out, hnil]; rfl
          subst hna0
          have HF := hide (show dropEnd (compK true ws) = compK true ws by rw [hnil]; rfl)
          clear hnil htk hk'
          go_wp2_with fail
          go_ret
          refine ⟨wr.heap.size, rfl, ?_, by omega, HB1.out.trans (Below.trans ⟨HB.out.os, HB.out.tape, HB.out.output, HB.out.size, fun b hb => HB.out.block b (by omega)⟩ ((Below.refl _ _).alloc (by omega) _))⟩
          rw [HOV.out, HF.out]
          exact ⟨⟨Ao, 0, ca, heap_alloc_new wr _, ((HO.out.sl (S' := fun b => w.heap.size ≤ b ∧ b < wr.heap.size) (fun b hb h => by rcases h with h | h; exact h.elim; omega)).alloc _)⟩, ⟨fun x hx => HK.out x (compK_mem _ _ x hx), fun _ => ⟨rfl, rfl⟩⟩, by omega⟩
        · rw [List.concat_eq_append] at hcat
          have hna1 : na = l2.length + 1 := by rw [← HNA.out, hcat]; simp
          obtain ⟨b', off', y', rfl, hbb', hy', _, _, _, _, _, d0, _⟩ := at_Word (HO.out.sl (S' := fun _ => True) (fun _ _ _ => trivial)) (k := na - 1) (by omega)
          have hyy : y' = y := by rw [hcat, hna1] at hy'; simp at hy'; exact hy'.symm
          subst hyy
          have hyk := endW_kind (HK.out y' (compK_mem _ _ y' (by rw [hcat]; simp)))
          have hpos : 0 < na := by omega
          have hnac := (HO.out.sl (S' := fun _ => True) (fun _ _ _ => trivial)).2.1
          have HN1 := hide hna1
          by_cases hy4 : y'.kind = 4
          · have HF := hide (show dropEnd (compK true ws) = l2 by unfold dropEnd; rw [hcat]; simp [hyk, hy4])
            have HTK := hide (show (compK true ws).take (na - 1) = l2 by rw [hcat, hna1]; simp)
            rw [hy4] at d0
            clear hcat hyk hy' hna1 hy4 htk hk'
            go_wp2_with fail
            go_ret
            refine ⟨wr.heap.size, rfl, ?_, by omega, HB1.out.trans (Below.trans ⟨HB.out.os, HB.out.tape, HB.out.output, HB.out.size, fun b hb => HB.out.block b (by omega)⟩ ((Below.refl _ _).alloc (by omega) _))⟩
            rw [HOV.out, HF.out]
            have hsl := (HO.out.sl (S' := fun b => w.heap.size ≤ b ∧ b < wr.heap.size) (fun b hb h => by rcases h with h | h; exact h.elim; omega)).take_ (k := na - 1) (by omega)
            rw [HTK.out] at hsl
            exact ⟨⟨_, na - 1, ca, heap_alloc_new wr _, hsl.alloc _⟩, ⟨fun x hx => HK.out x (compK_mem _ _ x (List.mem_of_mem_take (HTK.out ▸ hx))), fun _ => ⟨rfl, rfl⟩⟩, by omega⟩
          · have HF := hide (show dropEnd (compK true ws) = compK true ws by unfold dropEnd; rw [hcat]; simp [hyk, hy4])
            clear hcat hyk hy' hna1 htk hk'
            go_wp2_with fail
            go_ret
            refine ⟨wr.heap.size, rfl, ?_, by omega, HB1.out.trans (Below.trans ⟨HB.out.os, HB.out.tape, HB.out.output, HB.out.size, fun b hb => HB.out.block b (by omega)⟩ ((Below.refl _ _).alloc (by omega) _))⟩
            rw [HOV.out, HF.out]
            exact ⟨⟨_, na, ca, heap_alloc_new wr _, ((HO.out.sl (S' := fun b => w.heap.size ≤ b ∧ b < wr.heap.size) (fun b hb h => by rcases h with h | h; exact h.elim; omega)).alloc _)⟩, ⟨fun x hx => HK.out x (compK_mem _ _ x hx), fun _ => ⟨rfl, rfl⟩⟩, by omega⟩
  · have HOV := hide (show overT s = ⟨[], re, rl, rc⟩ by unfold overT; rw [HRR.out]; exact if_pos he)
    have heb : (re == 0) = false := by simp [he]
    clear he
    go_wp2_with fail
    go_ret
    refine ⟨W1.heap.size, rfl, ?_, hsz1, HB1.out.alloc hsz1 _⟩
    rw [HOV.out]
    exact ⟨⟨none, 0, 0, heap_alloc_new W1 _, Sl.nil⟩, ⟨fun _ h => (by cases h), fun e => absurd e (by simpa using heb)⟩, by omega⟩
end Go.Proofs.YtcfimcghckjmeaaGreatDoor
