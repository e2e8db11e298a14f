/- law05: walks of the document's key and numbers. -/
import Derived.Test.YtcfimcghckjmeaaGreatDoorM5d
import Derived.Test.YtcfimcghckjmeaaGreatDoorL2k
set_option linter.unusedSimpArgs false
set_option linter.unusedVariables false
namespace Go.Proofs.YtcfimcghckjmeaaGreatDoor
open Go.RowKit

section
variable {w : World} {S : Nat → Prop} {c : Nat} {s : Cur}
set_option maxRecDepth 100000 in
set_option maxHeartbeats 4000000 in
theorem dkey5_any (h : DocAt w S c s) (t : ByteArray) : Calls Tryz.prog 33 #[.pointer (some ⟨c, 0, none⟩), .string t] w (DocP S c w (keyK t s) (.tuple #[])) := by
  have HK := hide (dKey h t)
  clear h
  cases hb : isC (.nm t) s with
  | true =>
    have hg : keyK t s = popC s := by unfold keyK; rw [hb]; rfl
    have ho : overC true s = popC s := rfl
    rw [hb, ho] at HK
    rw [hg]
    clear hg ho hb
    go_enter Tryz.func33, Tryz.ntmps33
    go_wp2_with (go_at_call 61; refine HK.out.mono ?_; rintro e w2 ⟨rfl, hat, hon⟩)
    go_end0
    exact ⟨rfl, hat, hon⟩
  | false =>
    have hg : keyK t s = failC 7 s := by unfold keyK; rw [hb]; rfl
    have ho : overC false s = s := rfl
    rw [hb, ho] at HK
    rw [hg]
    clear hg ho hb
    go_enter Tryz.func33, Tryz.ntmps33
    go_wp2_with (first | (go_at_call 61; refine HK.out.mono ?_; rintro e w2 ⟨rfl, hat, hon⟩) | (go_at_call 62; refine (dFail hat 7).mono ?_; rintro e w3 ⟨rfl, hat3, hon3⟩))
    go_end0
    exact ⟨rfl, hat3, hon.trans hon3⟩
theorem DocAt.left (h : DocAt w S c s) : leftW c w = fuelC s := by
  obtain ⟨A, n, k, k0, k1, _, _, hs⟩ := h.at_
  unfold leftW fuelC
  rw [k0, k1]
  have := hs.len
  rw [this]
def NumsP (S : Nat → Prop) (c : Nat) (l : List Int) (s' : Cur) (w : World) (e : Ending) (w' : World) : Prop :=
  ∃ A k, e = .returned (.slice A l.length k) ∧ OwnL w' w.heap.size 3 (fun _ => False) (.slice A l.length k) l ∧ DocAt w' S c s' ∧ Only c w w'
set_option maxRecDepth 100000 in
set_option maxHeartbeats 8000000 in
theorem numbers5_any (h : DocAt w S c s) (hl : fuelC s ≤ 1099511627776) : Calls Tryz.prog 35 #[.pointer (some ⟨c, 0, none⟩)] w (NumsP S c (regsC goB s).1 (regsC goB s).2 w) := by
  obtain ⟨i0, hi, hz, hz1, hz2⟩ := info_parts info_int
  have HI0 := hide hi; have HZ := hide hz; have HZ1 := hide hz1; have HZ2 := hide hz2
  clear hi hz hz1 hz2
  have hlt := h.lt
  obtain ⟨B, hB⟩ : ∃ B, w.heap.size = B := ⟨_, rfl⟩
  have HBQ := hide hB
  rw [hB] at hlt
  obtain ⟨S1, hS1⟩ : ∃ S1 : Nat → Prop, S1 = fun b => S b ∧ b < B := ⟨_, rfl⟩
  have HS1 := hide hS1
  have HA1 := hide (show DocAt w S1 c s from h.moreS (fun b hb hS => by rw [hS1]; exact ⟨hS, by omega⟩) (by rw [hS1]; exact fun e => h.nS e.1))
  have HNS := hide h.nS
  obtain ⟨RR, hRR⟩ : ∃ RR, regsC goB s = RR := ⟨_, rfl⟩
  have HLEN := hide (show RR.1.length ≤ 1099511627776 by rw [← hRR]; exact Nat.le_trans (regs_len _ _) hl)
  rw [hRR]
  have HRR := hide hRR
  have hBw : B ≤ w.heap.size := by omega
  clear h hS1 hRR hl hB
  go_enter Tryz.func35, Tryz.ntmps35
  go_wp2_with fail
  go_loopw [3] (fun o wr => ∃ (acc : List Int) (A : Option Addr) (k n : Nat) (s' : Cur), o = .slice A n k ∧ acc.length = n ∧ OwnL wr B 3 (fun _ => False) o acc ∧ DocAt wr S1 c s' ∧ Only c w wr ∧ B ≤ wr.heap.size ∧ RR = (acc ++ (regsC goB s').1, (regsC goB s').2)) (fun _ wr => leftW c wr)
  case atStart => exact ⟨[], none, 0, 0, s, rfl, rfl, OwnL.nil_ _ _ _ _, HA1.out, Only.refl _ _, hBw, by rw [HRR.out]; rfl⟩
  case round =>
    obtain ⟨acc, A, k, n, s', rfl, hn, hown, hat, hon, hsz, hrr⟩ := hrel
    have HOW := hide hown; have HAT := hide hat; have HON := hide hon; have HR := hide hrr; have HN := hide hn
    have HM := hide (dMore hat)
    have HLE := hide hat.left
    have hn9 : n ≤ 9223372036854775807 := (hown.sl (S' := fun _ => True) (fun _ _ _ => trivial)).nle
    have hok := hat.ok
    have hatc := hat.at_
    have hcl := hat.lt
    clear hown hat hon hrr hn
    cases hm : moreC s' with
    | false =>
      rw [hm] at HM
      have hgo : goB s' = false := by
        cases hh : goB s' with
        | false => rfl
        | true =>
          obtain ⟨q1, q2⟩ := goB_ok s' hh
          unfold moreC at hm
          rw [q1] at hm
          cases hw : s'.ws with
          | nil => exact absurd hw q2
          | cons x l => rw [hw] at hm; cases hm
      have hg := regsC_no hgo
      rw [hg] at HR
      have HR2 := hide HR.out
      clear hm hgo hg HR hatc
      go_wp2_with (go_at_call 63; refine HM.out.mono ?_; rintro e w' ⟨rfl, rfl⟩)
      go_ret
      rw [HR2.out, List.append_nil]
      obtain rfl := HN.out
      exact ⟨A, k, rfl, by rw [HBQ.out]; exact HOW.out, HAT.out.moreS (fun b _ h => by rw [HS1.out] at h; exact h.1) HNS.out, HON.out⟩
    | true =>
      rw [hm] at HM
      obtain ⟨he, x, l, hw⟩ : s'.e = 0 ∧ ∃ x l, s'.ws = x :: l := by
        unfold moreC at hm
        simp only [Bool.and_eq_true, beq_iff_eq] at hm
        refine ⟨hm.1, ?_⟩
        cases hw : s'.ws with
        | nil => rw [hw] at hm; exact absurd hm.2 (by decide)
        | cons x l => exact ⟨x, l, rfl⟩
      obtain ⟨Aw, nw, kw, w0, w1, _, _, hsl⟩ := hatc
      have hnw : 0 < nw := by rw [← hsl.len, hw]; simp
      obtain ⟨bw, ofw, xw, hAw, hbw, hxw, j0, j1, j2, j3, j4, cw0, _⟩ := at_Word hsl hnw
      have hxx : xw = x := by rw [hw] at hxw; simpa using hxw.symm
      subst hxx hAw
      simp only [Nat.zero_mul, Nat.add_zero] at cw0
      have hgb : goB s' = (xw.kind == 2) := by unfold goB headC; rw [if_pos he, hw]; rfl
      obtain ⟨kd, hkd⟩ : ∃ kd, xw.kind = kd := ⟨_, rfl⟩
      rw [hkd] at cw0 hgb j0
      have hnw9 := hsl.nle
      clear hm hsl hxw j0 j1 j2 j3 j4 he hkd
      by_cases h2 : kd = 2
      · subst h2
        have hgo : goB s' = true := hgb
        have hg := regsC_go goB_ok hgo
        rw [hg] at HR
        have HFU := hide (num_fuel (goB_ok s' hgo).1 (goB_ok s' hgo).2)
        have HREG := hide (dNum HAT.out 0 64)
        have HIN := hide (numC_in s')
        obtain ⟨r, hr⟩ : ∃ r, numC 0 64 s' = r := ⟨_, rfl⟩
        rw [hr] at HR HFU HREG HIN
        obtain ⟨x, s2⟩ := r
        simp only at HR HFU HREG HIN
        have HR2 := hide HR.out
        have HCL := hide (show ∀ w2, Only c wr w2 → OwnL w2 B 3 (fun _ => False) (.slice A n k) acc ∧ B ≤ w2.heap.size from fun w2 h2 => ⟨HOW.out.keep h2.size (fun _ hf => hf.elim) (fun g hg => h2.block g (HOW.out.below_ g hg).2 (by have := (HOW.out.below_ g hg).1; omega)), by have := h2.size; omega⟩)
        have HLN := hide (show acc.length + 1 ≤ 1099511627776 by have h1 := HLEN.out; rw [HR2.out] at h1; simp only [List.length_append, List.length_cons] at h1; omega)
        clear hgb hgo hg HR hr hw hok
        go_wp2_with (first | (go_at_call 63; refine HM.out.mono ?_; rintro e w' ⟨rfl, rfl⟩) | (go_at_call 34; refine HREG.out.mono ?_; rintro e w2 ⟨rfl, hat2, hon2⟩; refine Hd.out ?_))
        have HAT2 := hide hat2; have HON2 := hide hon2
        obtain ⟨ho2, hsz2⟩ := HCL.out w2 hon2
        have HO2 := hide ho2
        clear hat2 hon2 ho2 HM hsz w0 w1 cw0 hbw hcl
        refine hide ?_
        go_wp2_with (at_builtin; refine wpList_push (α := Int) w2 [.int .i64 x] 3 rfl (.tmp 16) (.tmp 19) 23 rfl B 3 i0 _ 8 Tryz.underlying23 HI0.out HZ.out HZ1.out HZ2.out rfl (by decide) (fun _ => False) (fun _ => False) (.slice A n k) acc x rfl HO2.out _ rfl rfl ⟨rfl, HIN.out⟩ (fun _ h => h) (fun _ _ h => h) (fun _ h => h.elim) (by have := HLN.out; omega) (by have := HLN.out; omega) hsz2 ?_; intro v' w3 hown' hg hv')
        obtain ⟨A3, k3, rfl⟩ := hown'.form
        have HO3 := hide hown'
        have HB3 := hide (below_push (Below.refl B w2) HO2.out hsz2 hg)
        clear hown' hg hv'
        have hat3 : DocAt w3 S1 c s2 := HAT2.out.keep HB3.out.size (HB3.out.block c hlt) fun b hS _ => HB3.out.block b (by rw [HS1.out] at hS; exact hS.2)
        have HAT3 := hide hat3
        have hsz3 : B ≤ w3.heap.size := by have := HB3.out.size; omega
        have HON3 := hide (show Only c w w3 from (HON.out.trans HON2.out).then_below HB3.out (by rw [HBQ.out]; exact Nat.le_refl _))
        clear hat3 hsz2
        go_wp2_with fail
        go_roundw
        case rel => exact ⟨acc ++ [x], A3, k3, _, s2, rfl, rfl, HO3.out, HAT3.out, HON3.out, hsz3, by rw [HR2.out]; simp⟩
        case measure => rw [HAT3.out.left, HLE.out]; exact HFU.out
      · have hkb : (kd == 2) = false := by simpa using h2
        have hgo : goB s' = false := by rw [hgb, hkb]
        have hg := regsC_no hgo
        rw [hg] at HR
        have HR2 := hide HR.out
        clear hgb hgo hg HR hw hok h2
        go_wp2_with (go_at_call 63; refine HM.out.mono ?_; rintro e w' ⟨rfl, rfl⟩)
        go_ret
        rw [HR2.out, List.append_nil]
        obtain rfl := HN.out
        exact ⟨A, k, rfl, by rw [HBQ.out]; exact HOW.out, HAT.out.moreS (fun b _ h => by rw [HS1.out] at h; exact h.1) HNS.out, HON.out⟩
end
end Go.Proofs.YtcfimcghckjmeaaGreatDoor
