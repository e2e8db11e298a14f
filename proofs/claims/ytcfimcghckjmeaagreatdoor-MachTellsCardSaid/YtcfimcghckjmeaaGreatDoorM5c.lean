/- law05: walks of the program's reader: key, reg, regs. -/
import Derived.Test.YtcfimcghckjmeaaGreatDoorM5a
import Derived.Test.YtcfimcghckjmeaaGreatDoorL2e
import Derived.Test.YtcfimcghckjmeaaGreatDoorG17
set_option linter.unusedSimpArgs false
set_option linter.unusedVariables false
namespace Go.Proofs.YtcfimcghckjmeaaGreatDoor
open Go.RowKit

section
variable {w : World} {S : Nat → Prop} {c : Nat} {s : Cur}
set_option maxRecDepth 100000 in
set_option maxHeartbeats 4000000 in
theorem key5_any (h : CurAt w S c s) (t : ByteArray) : Calls Tryz.prog 28 #[.agg #[.pointer (some ⟨c, 0, none⟩)], .string t] w (CurP S c w (keyK t s) (.tuple #[])) := by
  have hlt := h.lt
  obtain ⟨W1, hW1⟩ : ∃ W1, w.alloc (.cells #[.pointer (some ⟨c, 0, none⟩)] 50) = W1 := ⟨_, rfl⟩
  have HW1 := hide hW1
  have h1 : CurAt W1 S c s := by rw [← hW1]; exact h.alloc _
  have HO1 := hide (show Only c w W1 by rw [← hW1]; exact (Only.refl c w).alloc _)
  have k0 : W1.cell? ⟨w.heap.size, 0, none⟩ = some (.pointer (some ⟨c, 0, none⟩)) := by rw [← hW1]; exact cell_of_row _ _ _ _ _ (0, 0) (heap_alloc_new w _)
  have hsz : w.heap.size < W1.heap.size := by rw [← hW1]; simp
  have HK := hide (cKey h1 t)
  have HS1 := hide h1
  clear h1 h
  cases hb : isC (.nm t) s with
  | true =>
    have hg : keyK t s = popC s := by unfold keyK; rw [hb]; rfl
    have ho : overC true s = popC s := rfl
    rw [hb, ho] at HK
    rw [hg]
    clear hg ho hb
    go_enter Tryz.func28, Tryz.ntmps28
    go_wp2_with (go_at_call 53; refine HK.out.mono ?_; rintro e w2 ⟨rfl, hat, hon⟩)
    go_end0
    exact ⟨rfl, hat, HO1.out.trans hon⟩
  | false =>
    have hg : keyK t s = failC 7 s := by unfold keyK; rw [hb]; rfl
    have ho : overC false s = s := rfl
    rw [hb, ho] at HK
    rw [hg]
    clear hg ho hb
    go_enter Tryz.func28, Tryz.ntmps28
    go_wp2_with (first | (go_at_call 53; refine HK.out.mono ?_; rintro e w2 ⟨rfl, hat, hon⟩; have k1 : w2.cell? ⟨w.heap.size, 0, none⟩ = some (.pointer (some ⟨c, 0, none⟩)) := (World.cell?_of_block (hon.block _ hsz (by show w.heap.size ≠ c; omega))).trans k0) | (go_at_call 54; refine (cFail hat 7).mono ?_; rintro e w3 ⟨rfl, hat3, hon3⟩))
    go_end0
    exact ⟨rfl, hat3, (HO1.out.trans hon).trans hon3⟩
set_option maxRecDepth 100000 in
set_option maxHeartbeats 4000000 in
theorem reg5_any (h : CurAt w S c s) : Calls Tryz.prog 29 #[.agg #[.pointer (some ⟨c, 0, none⟩)]] w (CurP S c w (numC 0 64 s).2 (.int .i64 (numC 0 64 s).1)) := by
  have hlt := h.lt
  obtain ⟨W1, hW1⟩ : ∃ W1, w.alloc (.cells #[.pointer (some ⟨c, 0, none⟩)] 50) = W1 := ⟨_, rfl⟩
  have h1 : CurAt W1 S c s := by rw [← hW1]; exact h.alloc _
  have HO1 := hide (show Only c w W1 by rw [← hW1]; exact (Only.refl c w).alloc _)
  have k0 : W1.cell? ⟨w.heap.size, 0, none⟩ = some (.pointer (some ⟨c, 0, none⟩)) := by rw [← hW1]; exact cell_of_row _ _ _ _ _ (0, 0) (heap_alloc_new w _)
  have hsz : w.heap.size < W1.heap.size := by rw [← hW1]; simp
  have HK := hide (cNum h1 0 64)
  generalize numC 0 64 s = r at HK ⊢
  clear h1 h
  go_enter Tryz.func29, Tryz.ntmps29
  go_wp2_with (go_at_call 55; refine HK.out.mono ?_; rintro e w2 ⟨rfl, hat, hon⟩)
  go_ret
  exact ⟨rfl, hat, HO1.out.trans hon⟩
theorem numC_in (s : Cur) : InI (numC 0 64 s).1 := by
  have hz : InI 0 := ⟨by decide, by decide⟩
  unfold numC
  split
  · split
    · split
      · exact hz
      · unfold InI; simp only; omega
    · exact hz
  · exact hz
/-- How many words are left, as the cursor's cells tell it. -/
def leftW (c : Nat) (w : World) : Nat := match w.cell? ⟨c, 0, none⟩, w.cell? ⟨c, 1, none⟩ with
  | some (.slice _ n _), some (.int _ e) => if e = 0 then n else 0
  | _, _ => 0
theorem CurAt.left (h : CurAt w S c s) : leftW c w = fuelC s := by
  obtain ⟨A, n, k, k0, k1, _, _, _, hs⟩ := h.at_
  unfold leftW fuelC
  rw [k0, k1]
  have := hs.len
  rw [List.length_map] at this
  rw [this]
theorem Only.then_below {c B : Nat} {a b d : World} (h : Only c a b) (hb : Below B b d) (hB : a.heap.size ≤ B) : Only c a d :=
  ⟨hb.os.trans h.os, hb.tape.trans h.tape, hb.output.trans h.output, Nat.le_trans h.size hb.size, fun k hk hc => (hb.block k (by omega)).trans (h.block k hk hc)⟩
def RegsP (S : Nat → Prop) (c : Nat) (l : List Int) (s' : Cur) (w : World) (e : Ending) (w' : World) : Prop :=
  ∃ A k, e = .returned (.slice A l.length k) ∧ OwnL w' w.heap.size 3 (fun _ => False) (.slice A l.length k) l ∧ CurAt w' S c s' ∧ Only c w w'
theorem regs_len {go : Cur → Bool} : ∀ (f : Nat) (s : Cur), (regsF go f s).1.length ≤ f
  | 0, _ => Nat.le_refl _
  | f + 1, s => by
    show List.length (Prod.fst (if _ then _ else _)) ≤ _
    split
    · have := regs_len (go := go) f (numC 0 64 s).2
      simp only [List.length_cons]; omega
    · simp
set_option maxRecDepth 100000 in
set_option maxHeartbeats 8000000 in
theorem regs5_any (h : CurAt w S c s) (hl : fuelC s ≤ 1099511627776) : Calls Tryz.prog 30 #[.agg #[.pointer (some ⟨c, 0, none⟩)]] w (RegsP S c (regsC goA s).1 (regsC goA s).2 w) := by
  obtain ⟨i0, hi, hz, hz1, hz2⟩ := info_parts info_int
  have HI0 := hide hi; have HZ := hide hz; have HZ1 := hide hz1; have HZ2 := hide hz2
  clear hi hz hz1 hz2
  have hlt := h.lt
  obtain ⟨B, hB⟩ : ∃ B, w.heap.size = B := ⟨_, rfl⟩
  have HBQ := hide hB
  rw [hB] at hlt
  obtain ⟨S1, hS1⟩ : ∃ S1 : Nat → Prop, S1 = fun b => S b ∧ b < B := ⟨_, rfl⟩
  have HS1 := hide hS1
  have hat0 : CurAt w S1 c s := h.moreS (fun b hb hS => by rw [hS1]; exact ⟨hS, by omega⟩) (by rw [hS1]; exact fun e => h.nS e.1)
  have HNS := hide h.nS
  obtain ⟨W1, hW1⟩ : ∃ W1, w.alloc (.cells #[.pointer (some ⟨c, 0, none⟩)] 50) = W1 := ⟨_, rfl⟩
  have HA1 := hide (show CurAt W1 S1 c s by rw [← hW1]; exact hat0.alloc _)
  have HO1 := hide (show Only c w W1 by rw [← hW1]; exact (Only.refl c w).alloc _)
  have HK1 := hide (show W1.cell? ⟨B, 0, none⟩ = some (.pointer (some ⟨c, 0, none⟩)) by rw [← hW1, ← hB]; exact cell_of_row _ _ _ _ _ (0, 0) (heap_alloc_new w _))
  have HZ3 := hide (show B < W1.heap.size by rw [← hW1, ← hB]; simp)
  obtain ⟨RR, hRR⟩ : ∃ RR, regsC goA s = RR := ⟨_, rfl⟩
  have HLEN := hide (show RR.1.length ≤ 1099511627776 by rw [← hRR]; exact Nat.le_trans (regs_len _ _) hl)
  rw [hRR]
  have HRR := hide hRR
  clear h hat0 hS1 hRR hl hB
  go_enter Tryz.func30, Tryz.ntmps30
  go_wp2_with fail
  rw [HBQ.out]
  clear hW1
  go_loopw [2] (fun o wr => ∃ (acc : List Int) (A : Option Addr) (k n : Nat) (s' : Cur), o = .slice A n k ∧ acc.length = n ∧ OwnL wr B 3 (fun _ => False) o acc ∧ CurAt wr S1 c s' ∧ Only c w wr ∧ wr.cell? ⟨B, 0, none⟩ = some (.pointer (some ⟨c, 0, none⟩)) ∧ B < wr.heap.size ∧ o.ownBlock ≠ some B ∧ RR = (acc ++ (regsC goA s').1, (regsC goA s').2)) (fun _ wr => leftW c wr)
  case atStart => exact ⟨[], none, 0, 0, s, rfl, rfl, OwnL.nil_ _ _ _ _, HA1.out, HO1.out, HK1.out, HZ3.out, by simp [Value.ownBlock], by rw [HRR.out]; rfl⟩
  case round =>
    obtain ⟨acc, A, k, n, s', rfl, hn, hown, hat, hon, hk0, hsz, hne, hrr⟩ := hrel
    have HOW := hide hown; have HAT := hide hat; have HON := hide hon; have HNE := hide hne; have HR := hide hrr; have HN := hide hn
    have HM := hide (cMore hat); have HE := hide (cEnds hat); have HP := hide (cPeek hat)
    have HGO : goA s' = (moreC s' && (!endsC s' && (peekC s').toList == [])) := rfl
    have HLE := hide hat.left
    have hn9 : n ≤ 9223372036854775807 := (hown.sl (S' := fun _ => True) (fun _ _ _ => trivial)).nle
    clear hown hat hon hne hrr hn
    cases hm : moreC s' with
    | false =>
      rw [hm] at HGO HM
      have hg := regsC_no HGO
      rw [hg] at HR
      have HR2 := hide HR.out
      clear hm HGO hg HR
      go_wp2_with (go_at_call 56; refine HM.out.mono ?_; rintro e w' ⟨rfl, rfl⟩)
      go_ret
      rw [HR2.out, List.append_nil]
      obtain rfl := HN.out
      exact ⟨A, k, rfl, by rw [HBQ.out]; exact HOW.out, HAT.out.moreS (fun b _ h => by rw [HS1.out] at h; exact h.1) HNS.out, HON.out⟩
    | true =>
      rw [hm] at HGO HM
      cases he : endsC s' with
      | true =>
        rw [he] at HGO HE
        have hg := regsC_no HGO
        rw [hg] at HR
        have HR2 := hide HR.out
        clear hm he HGO hg HR
        go_wp2_with (first | (go_at_call 56; refine HM.out.mono ?_; rintro e w' ⟨rfl, rfl⟩) | (go_at_call 57; refine HE.out.mono ?_; rintro e w' ⟨rfl, rfl⟩))
        go_ret
        rw [HR2.out, List.append_nil]
        obtain rfl := HN.out
        exact ⟨A, k, rfl, by rw [HBQ.out]; exact HOW.out, HAT.out.moreS (fun b _ h => by rw [HS1.out] at h; exact h.1) HNS.out, HON.out⟩
      | false =>
        rw [he] at HGO HE
        obtain ⟨tp, htp⟩ : ∃ tp, peekC s' = tp := ⟨_, rfl⟩
        rw [htp] at HGO HP
        have htp9 := HP
        cases hp : (tp.toList == []) with
        | false =>
          rw [hp] at HGO
          have hg := regsC_no HGO
          rw [hg] at HR
          have HR2 := hide HR.out
          clear hm he HGO hg HR htp htp9
          go_wp2_with (first | (go_at_call 56; refine HM.out.mono ?_; rintro e w' ⟨rfl, rfl⟩) | (go_at_call 57; refine HE.out.mono ?_; rintro e w' ⟨rfl, rfl⟩) | (go_at_call 58; refine HP.out.mono ?_; rintro e w' ⟨rfl, rfl⟩))
          go_ret
          rw [HR2.out, List.append_nil]
          obtain rfl := HN.out
          exact ⟨A, k, rfl, by rw [HBQ.out]; exact HOW.out, HAT.out.moreS (fun b _ h => by rw [HS1.out] at h; exact h.1) HNS.out, HON.out⟩
        | true =>
          rw [hp] at HGO
          have hg := regsC_go goA_ok (show goA s' = true from HGO)
          rw [hg] at HR
          have HFU := hide (num_fuel (goA_ok s' HGO).1 (goA_ok s' HGO).2)
          have HREG := hide (reg5_any HAT.out)
          have HIN := hide (numC_in s')
          obtain ⟨r, hr⟩ : ∃ r, numC 0 64 s' = r := ⟨_, rfl⟩
          rw [hr] at HR HFU HREG HIN
          obtain ⟨x, s2⟩ := r
          simp only at HR HFU HREG HIN
          have HR2 := hide HR.out
          clear hm he HGO hg HR htp htp9 hr
          go_wp2_with (first | (go_at_call 56; refine HM.out.mono ?_; rintro e w' ⟨rfl, rfl⟩) | (go_at_call 57; refine HE.out.mono ?_; rintro e w' ⟨rfl, rfl⟩) | (go_at_call 58; refine HP.out.mono ?_; rintro e w' ⟨rfl, rfl⟩))
          have HCL := hide (show ∀ w2, Only c wr w2 → OwnL w2 B 3 (fun _ => False) (.slice A n k) acc ∧ w2.cell? ⟨B, 0, none⟩ = some (.pointer (some ⟨c, 0, none⟩)) ∧ B < w2.heap.size from fun w2 h2 => ⟨HOW.out.keep h2.size (fun _ hf => hf.elim) (fun g hg => h2.block g (HOW.out.below_ g hg).2 (by have := (HOW.out.below_ g hg).1; omega)), (World.cell?_of_block (h2.block B hsz (by omega))).trans hk0, by have := h2.size; omega⟩)
          have HLN := hide (show acc.length + 1 ≤ 1099511627776 by have h1 := HLEN.out; rw [HR2.out] at h1; simp only [List.length_append, List.length_cons] at h1; omega)
          go_wp2_with (first | (go_at_call 29; refine HREG.out.mono ?_; rintro e w2 ⟨rfl, hat2, hon2⟩; refine Hd.out ?_))
          have HAT2 := hide hat2; have HON2 := hide hon2
          obtain ⟨ho2, hk2, hsz2⟩ := HCL.out w2 hon2
          have HO2 := hide ho2
          have hB2 : B ≤ w2.heap.size := Nat.le_of_lt hsz2
          clear hat2 hon2 ho2 HM HE HP hk0 hsz
          refine hide ?_
          go_wp2_with (at_builtin; refine wpList_push (α := Int) w2 [.int .i64 x] 3 rfl (.tmp 18) (.tmp 21) 23 rfl B 3 i0 _ 8 Tryz.underlying23 HI0.out HZ.out HZ1.out HZ2.out rfl (by decide) (fun _ => False) (fun _ => False) (.slice A n k) acc x rfl HO2.out _ rfl rfl ⟨rfl, HIN.out⟩ (fun _ h => h) (fun _ _ h => h) (fun _ h => h.elim) (by have := HLN.out; omega) (by have := HLN.out; omega) hB2 ?_; intro v' w3 hown' hg hv')
          obtain ⟨A3, k3, rfl⟩ := hown'.form
          have HO3 := hide hown'; have HG := hide hg; have HV := hide hv'
          have HB3 := hide (below_push (Below.refl B w2) HO2.out hB2 hg)
          clear hown' hg hv'
          have hk3 : w3.cell? ⟨B, 0, none⟩ = some (.pointer (some ⟨c, 0, none⟩)) := (World.cell?_of_block (HG.out.block B (by simp; omega) (fun e => HNE.out e.symm))).trans ((World.cell?_of_block (Below.heap_alloc w2 _ B hsz2)).trans hk2)
          have hat3 : CurAt w3 S1 c s2 := HAT2.out.keep HB3.out.size (HB3.out.block c hlt) fun b hS _ => HB3.out.block b (by rw [HS1.out] at hS; exact hS.2)
          have HAT3 := hide hat3
          have hsz3 : B < w3.heap.size := by have := HB3.out.size; omega
          have HON3 := hide (show Only c w w3 from (HON.out.trans HON2.out).then_below HB3.out (by rw [HBQ.out]; exact Nat.le_refl _))
          have HSZ2 := hide hsz2
          clear hat3 hk2 hsz2 hB2
          go_wp2_with fail
          go_roundw
          case rel =>
            refine ⟨acc ++ [x], A3, k3, _, s2, rfl, rfl, HO3.out, HAT3.out, HON3.out, hk3, hsz3, fun e => ?_, by rw [HR2.out]; simp⟩
            rcases HV.out with h | h
            · exact HNE.out (h ▸ e)
            · rw [h] at e; injection e with e; have := HSZ2.out; omega
          case measure => rw [HAT3.out.left, HLE.out]; exact HFU.out
end
end Go.Proofs.YtcfimcghckjmeaaGreatDoor
