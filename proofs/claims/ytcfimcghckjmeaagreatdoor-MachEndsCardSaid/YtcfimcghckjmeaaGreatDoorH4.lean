/- law05: walks of the program's reader: key, reg, regs. law05: walk of the program's Parse. -/
import Derived.Test.YtcfimcghckjmeaaGreatDoorH2
import Derived.Test.YtcfimcghckjmeaaGreatDoorH3
import Derived.Test.YtcfimcghckjmeaaGreatDoorG17
import Derived.Test.YtcfimcghckjmeaaGreatDoorW9
set_option linter.unusedSimpArgs false
set_option linter.unusedVariables false
namespace Go.Proofs.YtcfimcghckjmeaaGreatDoor
open Go.RowKit

section
variable {w : World} {S : Nat → Prop} {c : Nat} {s : Cur}
set_option maxRecDepth 100000 in
set_option maxHeartbeats 4000000 in
theorem key5_any (h : CurAt w S c s) (t : ByteArray) : Calls Tryz.prog 28 #[.agg #[.pointer (some ⟨c, 0, none⟩)], .string t] w (CurP S c w (keyK t s) (.tuple #[])) := by
  have hlt := h.lt
  obtain ⟨W1, hW1⟩ : ∃ W1, w.alloc (.cells #[.pointer (some ⟨c, 0, none⟩)] 50) = W1 := ⟨_, rfl⟩
  have HW1 := hide hW1
  have h1 : CurAt W1 S c s := by rw [← hW1]; exact h.alloc _
  have HO1 := hide (show Only c w W1 by rw [← hW1]; exact (Only.refl c w).alloc _)
  have k0 : W1.cell? ⟨w.heap.size, 0, none⟩ = some (.pointer (some ⟨c, 0, none⟩)) := by rw [← hW1]; exact cell_of_row _ _ _ _ _ (0, 0) (heap_alloc_new w _)
  have hsz : w.heap.size < W1.heap.size := by rw [← hW1]; simp
  have HK := hide (cKey h1 t)
  have HS1 := hide h1
  clear h1 h
  cases hb : isC (.nm t) s with
  | true =>
    have hg : keyK t s = popC s := by unfold keyK; rw [hb]; rfl
    have ho : overC true s = popC s := rfl
    rw [hb, ho] at HK
    rw [hg]
    clear hg ho hb
    go_enter Tryz.func28, Tryz.ntmps28
    go_wp2_with (go_at_call 53; refine HK.out.mono ?_; rintro e w2 ⟨rfl, hat, hon⟩)
    go_end0
    exact ⟨rfl, hat, HO1.out.trans hon⟩
  | false =>
    have hg : keyK t s = failC 7 s := by unfold keyK; rw [hb]; rfl
    have ho : overC false s = s := rfl
    rw [hb, ho] at HK
    rw [hg]
    clear hg ho hb
    go_enter Tryz.func28, Tryz.ntmps28
    go_wp2_with (first | (go_at_call 53; refine HK.out.mono ?_; rintro e w2 ⟨rfl, hat, hon⟩; have k1 : w2.cell? ⟨w.heap.size, 0, none⟩ = some (.pointer (some ⟨c, 0, none⟩)) := (World.cell?_of_block (hon.block _ hsz (by show w.heap.size ≠ c; omega))).trans k0) | (go_at_call 54; refine (cFail hat 7).mono ?_; rintro e w3 ⟨rfl, hat3, hon3⟩))
    go_end0
    exact ⟨rfl, hat3, (HO1.out.trans hon).trans hon3⟩
set_option maxRecDepth 100000 in
set_option maxHeartbeats 4000000 in
theorem reg5_any (h : CurAt w S c s) : Calls Tryz.prog 29 #[.agg #[.pointer (some ⟨c, 0, none⟩)]] w (CurP S c w (numC 0 64 s).2 (.int .i64 (numC 0 64 s).1)) := by
  have hlt := h.lt
  obtain ⟨W1, hW1⟩ : ∃ W1, w.alloc (.cells #[.pointer (some ⟨c, 0, none⟩)] 50) = W1 := ⟨_, rfl⟩
  have h1 : CurAt W1 S c s := by rw [← hW1]; exact h.alloc _
  have HO1 := hide (show Only c w W1 by rw [← hW1]; exact (Only.refl c w).alloc _)
  have k0 : W1.cell? ⟨w.heap.size, 0, none⟩ = some (.pointer (some ⟨c, 0, none⟩)) := by rw [← hW1]; exact cell_of_row _ _ _ _ _ (0, 0) (heap_alloc_new w _)
  have hsz : w.heap.size < W1.heap.size := by rw [← hW1]; simp
  have HK := hide (cNum h1 0 64)
  generalize numC 0 64 s = r at HK ⊢
  clear h1 h
  go_enter Tryz.func29, Tryz.ntmps29
  go_wp2_with (go_at_call 55; refine HK.out.mono ?_; rintro e w2 ⟨rfl, hat, hon⟩)
  go_ret
  exact ⟨rfl, hat, HO1.out.trans hon⟩
theorem numC_in (s : Cur) : InI (numC 0 64 s).1 := by
  have hz : InI 0 := ⟨by decide, by decide⟩
  unfold numC
  split
  · split
    · split
      · exact hz
      · unfold InI; simp only; omega
    · exact hz
  · exact hz
/-- How many words are left, as the cursor's cells tell it. -/
def leftW (c : Nat) (w : World) : Nat := match w.cell? ⟨c, 0, none⟩, w.cell? ⟨c, 1, none⟩ with
  | some (.slice _ n _), some (.int _ e) => if e = 0 then n else 0
  | _, _ => 0
theorem CurAt.left (h : CurAt w S c s) : leftW c w = fuelC s := by
  obtain ⟨A, n, k, k0, k1, _, _, _, hs⟩ := h.at_
  unfold leftW fuelC
  rw [k0, k1]
  have := hs.len
  rw [List.length_map] at this
  rw [this]
theorem Only.then_below {c B : Nat} {a b d : World} (h : Only c a b) (hb : Below B b d) (hB : a.heap.size ≤ B) : Only c a d :=
  ⟨hb.os.trans h.os, hb.tape.trans h.tape, hb.output.trans h.output, Nat.le_trans h.size hb.size, fun k hk hc => (hb.block k (by omega)).trans (h.block k hk hc)⟩
def RegsP (S : Nat → Prop) (c : Nat) (l : List Int) (s' : Cur) (w : World) (e : Ending) (w' : World) : Prop :=
  ∃ A k, e = .returned (.slice A l.length k) ∧ OwnL w' w.heap.size 3 (fun _ => False) (.slice A l.length k) l ∧ CurAt w' S c s' ∧ Only c w w'
theorem regs_len {go : Cur → Bool} : ∀ (f : Nat) (s : Cur), (regsF go f s).1.length ≤ f
  | 0, _ => Nat.le_refl _
  | f + 1, s => by
    show List.length (Prod.fst (if _ then _ else _)) ≤ _
    split
    · have := regs_len (go := go) f (numC 0 64 s).2
      simp only [List.length_cons]; omega
    · simp
set_option maxRecDepth 100000 in
set_option maxHeartbeats 8000000 in
theorem regs5_any (h : CurAt w S c s) (hl : fuelC s ≤ 1099511627776) : Calls Tryz.prog 30 #[.agg #[.pointer (some ⟨c, 0, none⟩)]] w (RegsP S c (regsC goA s).1 (regsC goA s).2 w) := by
  obtain ⟨i0, hi, hz, hz1, hz2⟩ := info_parts info_int
  have HI0 := hide hi; have HZ := hide hz; have HZ1 := hide hz1; have HZ2 := hide hz2
  clear hi hz hz1 hz2
  have hlt := h.lt
  obtain ⟨B, hB⟩ : ∃ B, w.heap.size = B := ⟨_, rfl⟩
  have HBQ := hide hB
  rw [hB] at hlt
  obtain ⟨S1, hS1⟩ : ∃ S1 : Nat → Prop, S1 = fun b => S b ∧ b < B := ⟨_, rfl⟩
  have HS1 := hide hS1
  have hat0 : CurAt w S1 c s := h.moreS (fun b hb hS => by rw [hS1]; exact ⟨hS, by omega⟩) (by rw [hS1]; exact fun e => h.nS e.1)
  have HNS := hide h.nS
  obtain ⟨W1, hW1⟩ : ∃ W1, w.alloc (.cells #[.pointer (some ⟨c, 0, none⟩)] 50) = W1 := ⟨_, rfl⟩
  have HA1 := hide (show CurAt W1 S1 c s by rw [← hW1]; exact hat0.alloc _)
  have HO1 := hide (show Only c w W1 by rw [← hW1]; exact (Only.refl c w).alloc _)
  have HK1 := hide (show W1.cell? ⟨B, 0, none⟩ = some (.pointer (some ⟨c, 0, none⟩)) by rw [← hW1, ← hB]; exact cell_of_row _ _ _ _ _ (0, 0) (heap_alloc_new w _))
  have HZ3 := hide (show B < W1.heap.size by rw [← hW1, ← hB]; simp)
  obtain ⟨RR, hRR⟩ : ∃ RR, regsC goA s = RR := ⟨_, rfl⟩
  have HLEN := hide (show RR.1.length ≤ 1099511627776 by rw [← hRR]; exact Nat.le_trans (regs_len _ _) hl)
  rw [hRR]
  have HRR := hide hRR
  clear h hat0 hS1 hRR hl hB
  go_enter Tryz.func30, Tryz.ntmps30
  go_wp2_with fail
  rw [HBQ.out]
  clear hW1
  go_loopw [2] (fun o wr => ∃ (acc : List Int) (A : Option Addr) (k n : Nat) (s' : Cur), o = .slice A n k ∧ acc.length = n ∧ OwnL wr B 3 (fun _ => False) o acc ∧ CurAt wr S1 c s' ∧ Only c w wr ∧ wr.cell? ⟨B, 0, none⟩ = some (.pointer (some ⟨c, 0, none⟩)) ∧ B < wr.heap.size ∧ o.ownBlock ≠ some B ∧ RR = (acc ++ (regsC goA s').1, (regsC goA s').2)) (fun _ wr => leftW c wr)
  case atStart => exact ⟨[], none, 0, 0, s, rfl, rfl, OwnL.nil_ _ _ _ _, HA1.out, HO1.out, HK1.out, HZ3.out, by simp [Value.ownBlock], by rw [HRR.out]; rfl⟩
  case round =>
    obtain ⟨acc, A, k, n, s', rfl, hn, hown, hat, hon, hk0, hsz, hne, hrr⟩ := hrel
    have HOW := hide hown; have HAT := hide hat; have HON := hide hon; have HNE := hide hne; have HR := hide hrr; have HN := hide hn
    have HM := hide (cMore hat); have HE := hide (cEnds hat); have HP := hide (cPeek hat)
    have HGO : goA s' = (moreC s' && (!endsC s' && (peekC s').toList == [])) := rfl
    have HLE := hide hat.left
    have hn9 : n ≤ 9223372036854775807 := (hown.sl (S' := fun _ => True) (fun _ _ _ => trivial)).nle
    clear hown hat hon hne hrr hn
    cases hm : moreC s' with
    | false =>
      rw [hm] at HGO HM
      have hg := regsC_no HGO
      rw [hg] at HR
      have HR2 := hide HR.out
      clear hm HGO hg HR
      go_wp2_with (go_at_call 56; refine HM.out.mono ?_; rintro e w' ⟨rfl, rfl⟩)
      go_ret
      rw [HR2.out, List.append_nil]
      obtain rfl := HN.out
      exact ⟨A, k, rfl, by rw [HBQ.out]; exact HOW.out, HAT.out.moreS (fun b _ h => by rw [HS1.out] at h; exact h.1) HNS.out, HON.out⟩
    | true =>
      rw [hm] at HGO HM
      cases he : endsC s' with
      | true =>
        rw [he] at HGO HE
        have hg := regsC_no HGO
        rw [hg] at HR
        have HR2 := hide HR.out
        clear hm he HGO hg HR
        go_wp2_with (first | (go_at_call 56; refine HM.out.mono ?_; rintro e w' ⟨rfl, rfl⟩) | (go_at_call 57; refine HE.out.mono ?_; rintro e w' ⟨rfl, rfl⟩))
        go_ret
        rw [HR2.out, List.append_nil]
        obtain rfl := HN.out
        exact ⟨A, k, rfl, by rw [HBQ.out]; exact HOW.out, HAT.out.moreS (fun b _ h => by rw [HS1.out] at h; exact h.1) HNS.out, HON.out⟩
      | false =>
        rw [he] at HGO HE
        obtain ⟨tp, htp⟩ : ∃ tp, peekC s' = tp := ⟨_, rfl⟩
        rw [htp] at HGO HP
        have htp9 := HP
        cases hp : (tp.toList == []) with
        | false =>
          rw [hp] at HGO
          have hg := regsC_no HGO
          rw [hg] at HR
          have HR2 := hide HR.out
          clear hm he HGO hg HR htp htp9
          go_wp2_with (first | (go_at_call 56; refine HM.out.mono ?_; rintro e w' ⟨rfl, rfl⟩) | (go_at_call 57; refine HE.out.mono ?_; rintro e w' ⟨rfl, rfl⟩) | (go_at_call 58; refine HP.out.mono ?_; rintro e w' ⟨rfl, rfl⟩))
          go_ret
          rw [HR2.out, List.append_nil]
          obtain rfl := HN.out
          exact ⟨A, k, rfl, by rw [HBQ.out]; exact HOW.out, HAT.out.moreS (fun b _ h => by rw [HS1.out] at h; exact h.1) HNS.out, HON.out⟩
        | true =>
          rw [hp] at HGO
          have hg := regsC_go goA_ok (show goA s' = true from HGO)
          rw [hg] at HR
          have HFU := hide (num_fuel (goA_ok s' HGO).1 (goA_ok s' HGO).2)
          have HREG := hide (reg5_any HAT.out)
          have HIN := hide (numC_in s')
          obtain ⟨r, hr⟩ : ∃ r, numC 0 64 s' = r := ⟨_, rfl⟩
          rw [hr] at HR HFU HREG HIN
          obtain ⟨x, s2⟩ := r
          simp only at HR HFU HREG HIN
          have HR2 := hide HR.out
          clear hm he HGO hg HR htp htp9 hr
          go_wp2_with (first | (go_at_call 56; refine HM.out.mono ?_; rintro e w' ⟨rfl, rfl⟩) | (go_at_call 57; refine HE.out.mono ?_; rintro e w' ⟨rfl, rfl⟩) | (go_at_call 58; refine HP.out.mono ?_; rintro e w' ⟨rfl, rfl⟩))
          have HCL := hide (show ∀ w2, Only c wr w2 → OwnL w2 B 3 (fun _ => False) (.slice A n k) acc ∧ w2.cell? ⟨B, 0, none⟩ = some (.pointer (some ⟨c, 0, none⟩)) ∧ B < w2.heap.size from fun w2 h2 => ⟨HOW.out.keep h2.size (fun _ hf => hf.elim) (fun g hg => h2.block g (HOW.out.below_ g hg).2 (by have := (HOW.out.below_ g hg).1; omega)), (World.cell?_of_block (h2.block B hsz (by omega))).trans hk0, by have := h2.size; omega⟩)
          have HLN := hide (show acc.length + 1 ≤ 1099511627776 by have h1 := HLEN.out; rw [HR2.out] at h1; simp only [List.length_append, List.length_cons] at h1; omega)
          go_wp2_with (first | (go_at_call 29; refine HREG.out.mono ?_; rintro e w2 ⟨rfl, hat2, hon2⟩; refine Hd.out ?_))
          have HAT2 := hide hat2; have HON2 := hide hon2
          obtain ⟨ho2, hk2, hsz2⟩ := HCL.out w2 hon2
          have HO2 := hide ho2
          have hB2 : B ≤ w2.heap.size := Nat.le_of_lt hsz2
          clear hat2 hon2 ho2 HM HE HP hk0 hsz
          refine hide ?_
          go_wp2_with (at_builtin; refine wpList_push (α := Int) w2 [.int .i64 x] 3 rfl (.tmp 18) (.tmp 21) 23 rfl B 3 i0 _ 8 Tryz.underlying23 HI0.out HZ.out HZ1.out HZ2.out rfl (by decide) (fun _ => False) (fun _ => False) (.slice A n k) acc x rfl HO2.out _ rfl rfl ⟨rfl, HIN.out⟩ (fun _ h => h) (fun _ _ h => h) (fun _ h => h.elim) (by have := HLN.out; omega) (by have := HLN.out; omega) hB2 ?_; intro v' w3 hown' hg hv')
          obtain ⟨A3, k3, rfl⟩ := hown'.form
          have HO3 := hide hown'; have HG := hide hg; have HV := hide hv'
          have HB3 := hide (below_push (Below.refl B w2) HO2.out hB2 hg)
          clear hown' hg hv'
          have hk3 : w3.cell? ⟨B, 0, none⟩ = some (.pointer (some ⟨c, 0, none⟩)) := (World.cell?_of_block (HG.out.block B (by simp; omega) (fun e => HNE.out e.symm))).trans ((World.cell?_of_block (Below.heap_alloc w2 _ B hsz2)).trans hk2)
          have hat3 : CurAt w3 S1 c s2 := HAT2.out.keep HB3.out.size (HB3.out.block c hlt) fun b hS _ => HB3.out.block b (by rw [HS1.out] at hS; exact hS.2)
          have HAT3 := hide hat3
          have hsz3 : B < w3.heap.size := by have := HB3.out.size; omega
          have HON3 := hide (show Only c w w3 from (HON.out.trans HON2.out).then_below HB3.out (by rw [HBQ.out]; exact Nat.le_refl _))
          have HSZ2 := hide hsz2
          clear hat3 hk2 hsz2 hB2
          go_wp2_with fail
          go_roundw
          case rel =>
            refine ⟨acc ++ [x], A3, k3, _, s2, rfl, rfl, HO3.out, HAT3.out, HON3.out, hk3, hsz3, fun e => ?_, by rw [HR2.out]; simp⟩
            rcases HV.out with h | h
            · exact HNE.out (h ▸ e)
            · rw [h] at e; injection e with e; have := HSZ2.out; omega
          case measure => rw [HAT3.out.left, HLE.out]; exact HFU.out
end
end Go.Proofs.YtcfimcghckjmeaaGreatDoor
set_option linter.unusedSimpArgs false
set_option linter.unusedVariables false
namespace Go.Proofs.YtcfimcghckjmeaaGreatDoor
open Go.RowKit

/-- The machine that is read, in its own block M; the reader's block R; the cursor. -/
structure PAt (W : World) (B M R c : Nat) (S : Nat → Prop) (v1 v2 : Value) (m : Machine) (s : Cur) : Prop where
  row : W.heap[M]? = some (.cells #[.int .i64 m.regs, v1, .int .i64 m.ret, v2] 25 (0, 0))
  rdr : W.cell? ⟨R, 0, none⟩ = some (.pointer (some ⟨c, 0, none⟩))
  cur : CurAt W S c s
  a : OwnL W (R + 1) 3 (fun _ => False) v1 m.args
  v : OwnL W (R + 1) 3 (fun _ => False) v2 m.saved
  o1 : M < c
  o2 : c < R
  o3 : R < W.heap.size
  o4 : B ≤ M
  o5 : ∀ b, S b → b < R ∧ b ≠ M
section
variable {W W' : World} {B M R c : Nat} {S : Nat → Prop} {v1 v2 : Value} {m : Machine} {s s' : Cur}
theorem PAt.call (h : PAt W B M R c S v1 v2 m s) (hon : Only c W W') (hat : CurAt W' S c s') : PAt W' B M R c S v1 v2 m s' where
  row := (hon.block M (by have := h.o1; have := h.o2; have := h.o3; omega) (by have := h.o1; omega)).trans h.row
  rdr := (World.cell?_of_block (hon.block R h.o3 (by have := h.o2; omega))).trans h.rdr
  cur := hat
  a := h.a.keep hon.size (fun _ hf => hf.elim) fun g hg => hon.block g (h.a.below_ g hg).2 (by have := (h.a.below_ g hg).1; have := h.o2; omega)
  v := h.v.keep hon.size (fun _ hf => hf.elim) fun g hg => hon.block g (h.v.below_ g hg).2 (by have := (h.v.below_ g hg).1; have := h.o2; omega)
  o1 := h.o1
  o2 := h.o2
  o3 := by have := h.o3; have := hon.size; omega
  o4 := h.o4
  o5 := h.o5
theorem PAt.set (h : PAt W B M R c S v1 v2 m s) {j : Nat} {x : Value} {v1' v2' : Value} {m' : Machine} (hr : (#[.int .i64 m.regs, v1, .int .i64 m.ret, v2] : Array Value).setIfInBounds j x = #[.int .i64 m'.regs, v1', .int .i64 m'.ret, v2']) (ha : OwnL W (R + 1) 3 (fun _ => False) v1' m'.args) (hv : OwnL W (R + 1) 3 (fun _ => False) v2' m'.saved) : PAt (W.setCell ⟨M, j, none⟩ x) B M R c S v1' v2' m' s where
  row := by rw [row_setB h.row, hr]
  rdr := (World.cell?_of_block (Below.heap_setCell W ⟨M, j, none⟩ x R (by show R ≠ M; have := h.o1; have := h.o2; omega))).trans h.rdr
  cur := h.cur.keep (by simp) (Below.heap_setCell W ⟨M, j, none⟩ x c (by show c ≠ M; have := h.o1; omega)) fun b hS _ => Below.heap_setCell W ⟨M, j, none⟩ x b (h.o5 b hS).2
  a := ha.setCell (fun e => e) (fun e => by have h5 : R + 1 ≤ M := (ha.below_ _ e).1; have := h.o1; have := h.o2; omega) x
  v := hv.setCell (fun e => e) (fun e => by have h5 : R + 1 ≤ M := (hv.below_ _ e).1; have := h.o1; have := h.o2; omega) x
  o1 := h.o1
  o2 := h.o2
  o3 := by have := h.o3; simpa using this
  o4 := h.o4
  o5 := h.o5
theorem PAt.fz (h : PAt W B M R c S v1 v2 m s) (j : Nat) : W.frozen? ⟨M, j, none⟩ = false := by simp [World.frozen?, h.row]
theorem PAt.lt (h : PAt W B M R c S v1 v2 m s) : M < W.heap.size := by have := h.o1; have := h.o2; have := h.o3; omega
theorem PAt.cells (h : PAt W B M R c S v1 v2 m s) : W.cell? ⟨M, 0, none⟩ = some (.int .i64 m.regs) ∧ W.cell? ⟨M, 1, none⟩ = some v1 ∧ W.cell? ⟨M, 2, none⟩ = some (.int .i64 m.ret) ∧ W.cell? ⟨M, 3, none⟩ = some v2 :=
  ⟨cell_of_row W M _ _ _ (0, 0) h.row, cell_of_row W M _ _ _ (0, 0) h.row, cell_of_row W M _ _ _ (0, 0) h.row, cell_of_row W M _ _ _ (0, 0) h.row⟩
end
theorem OwnL.base {α : Type} [Rep α] {w : World} {b b' : Nat} {T : TypeId} {S : Nat → Prop} {v : Value} {xs : List α} (h : OwnL w b T S v xs) (hb : b' ≤ b) : OwnL w b' T S v xs := by
  obtain ⟨vals, ⟨l1, l2⟩, hr, ha⟩ := h
  refine ⟨vals, ⟨l1, ?_⟩, hr, ha⟩
  rcases l2 with l2 | ⟨g, cap, cur, e, hg, rest⟩
  · exact .inl l2
  · exact .inr ⟨g, cap, cur, e, Nat.le_trans hb hg, rest⟩
/-- A machine that the call has read, and an error. -/
def RetM (r : Machine × Int) (w : World) (e : Ending) (w' : World) : Prop :=
  ∃ A1 n1 c1 A2 n2 c2, e = .returned (.tuple #[.agg #[.int .i64 r.1.regs, .slice A1 n1 c1, .int .i64 r.1.ret, .slice A2 n2 c2], .int .i64 r.2]) ∧ Sl w' (fun b => w.heap.size ≤ b) A1 n1 c1 r.1.args ∧ Sl w' (fun b => w.heap.size ≤ b) A2 n2 c2 r.1.saved ∧ Below w.heap.size w w'
theorem row_set4 {W : World} {M : Nat} {a1 a2 a3 a4 : Value} {t : TypeId} (h : W.heap[M]? = some (.cells #[a1, a2, a3, a4] t (0, 0))) (b1 b2 b3 b4 : Value) :
    ((((W.setCell ⟨M, 0, none⟩ b1).setCell ⟨M, 1, none⟩ b2).setCell ⟨M, 2, none⟩ b3).setCell ⟨M, 3, none⟩ b4).heap[M]? = some (.cells #[b1, b2, b3, b4] t (0, 0)) := by
  rw [row_setB (row_setB (row_setB (row_setB h 0 _) 1 _) 2 _) 3 _]
  rfl
theorem size_mach : (Tryz.prog.info? 25).map (·.size) = some 4 := by kernel_rfl
theorem results_mach {fn : Func} {p t : Tmp} {g : Nat} {a1 a2 a3 a4 : Value} (h : fn.results = #[.cell p 25, .tmp t]) (tmps : Array Value) (w : World)
    (hp : tmps.getD p undef = .pointer (some ⟨g, 0, none⟩)) (hg : w.heap[g]? = some (.cells #[a1, a2, a3, a4] 25 (0, 0))) : (results fn tmps).run Tryz.prog w = .ok (.tuple #[.agg #[a1, a2, a3, a4], tmps.getD t undef]) w :=
  results_cell_tmp h tmps w hp (run_loadVar_row w g _ _ _ (0, 0) _ hg Tryz.underlying25 rfl size_mach)
theorem overT_len (s : ByteArray) (hs : s.size ≤ 34359738368) : (overT s).ws.length ≤ 1099511627776 := by
  unfold overT
  split
  · exact Nat.zero_le _
  · have h1 := read_count s hs
    have h2 := compK_len (readR s).words true
    have h3 : (dropEnd (compK true (readR s).words)).length ≤ (compK true (readR s).words).length := by
      unfold dropEnd
      split
      · split
        · simp
        · exact Nat.le_refl _
      · exact Nat.le_refl _
    simp only
    omega
theorem fuel_le (s : Cur) : fuelC s ≤ s.ws.length := by unfold fuelC; split <;> omega
theorem fail_ws (x : Int) (s : Cur) : (failC x s).ws = s.ws := by
  unfold failC
  split
  · rfl
  · split <;> rfl
theorem key_ws (t : ByteArray) (s : Cur) : (keyK t s).ws.length ≤ s.ws.length := by
  unfold keyK
  split
  · show s.ws.tail.length ≤ _; simp
  · rw [fail_ws]; exact Nat.le_refl _
theorem num_ws (s : Cur) : (numC 0 64 s).2.ws.length ≤ s.ws.length := by
  have h1 : (popC s).ws.length ≤ s.ws.length := by show s.ws.tail.length ≤ _; simp
  have h2 : ∀ x, (failC x s).ws.length ≤ s.ws.length := fun x => by rw [fail_ws]; exact Nat.le_refl _
  unfold numC
  split
  · split
    · split
      · exact h2 3
      · exact h1
    · exact h2 7
  · exact h2 7
theorem regsF_ws {go : Cur → Bool} : ∀ (f : Nat) (s : Cur), (regsF go f s).2.ws.length ≤ s.ws.length
  | 0, _ => Nat.le_refl _
  | f + 1, s => by
    show List.length (Cur.ws (Prod.snd (if _ then _ else _))) ≤ _
    split
    · exact Nat.le_trans (regsF_ws f _) (num_ws s)
    · exact Nat.le_refl _

set_option maxRecDepth 100000 in
set_option maxHeartbeats 8000000 in
theorem parse5_any (s : ByteArray) (w : World) (hs : s.size ≤ 34359738368) (hv : Vars w) : Calls Tryz.prog 7 #[.string s] w (RetM (parseT goA s) w) := by
  by_cases hbig : 262144 < s.size
  · have hg : parseT goA s = (zeroM, 3) := by unfold parseT; rw [if_pos hbig]
    rw [hg]
    go_enter Tryz.func7, Tryz.ntmps7
    go_wp2_with fail
    refine bodyPost_ret (v := .tuple #[.agg #[.int .i64 0, .slice none 0 0, .int .i64 0, .slice none 0 0], .int .i64 3]) (results_mach Tryz.results7 _ _ rfl (heap_alloc_new w _)) rfl ?_
    exact ⟨none, 0, 0, none, 0, 0, rfl, Sl.nil, Sl.nil, (Below.refl _ _).alloc (Nat.le_refl _) _⟩
  have hg : parseT goA s = endM (readM goA (overT s)).1 (errC (readM goA (overT s)).2).2.2 := by unfold parseT; rw [if_neg hbig]
  rw [hg]
  obtain ⟨M, hM⟩ : ∃ M, w.heap.size = M := ⟨_, rfl⟩
  have HM := hide hM
  obtain ⟨W0, hW0⟩ : ∃ W0, w.alloc (.cells #[.int .i64 0, .slice none 0 0, .int .i64 0, .slice none 0 0] 25) = W0 := ⟨_, rfl⟩
  have HR0 := hide (show W0.heap[M]? = some (.cells #[.int .i64 0, .slice none 0 0, .int .i64 0, .slice none 0 0] 25 (0, 0)) by rw [← hW0, ← hM]; exact heap_alloc_new w _)
  have HB0 := hide (show Below M w W0 by rw [← hW0, ← hM]; exact (Below.refl _ _).alloc (Nat.le_refl _) _)
  have HZ0 := hide (show W0.heap.size = M + 1 by rw [← hW0, ← hM]; simp)
  have HOV := hide (show Calls Tryz.prog 27 #[.string s] W0 (fun e w' => e = .returned (.pointer (some ⟨W0.heap.size, 0, none⟩)) ∧ CurAt w' (fun b => W0.heap.size < b ∧ b < w'.heap.size) W0.heap.size (overT s) ∧ Below W0.heap.size W0 w') from cOver1 s W0 hs (by rw [← hW0]; exact hv.below ((Below.refl w.heap.size w).alloc (Nat.le_refl _) _) hv.sz))
  -- PRE
  have hl0 := overT_len s hs
  unfold readM
  simp only
  generalize overT s = s0 at hl0 HOV ⊢
  have hc1 := fun (W : World) (S : Nat → Prop) (c : Nat) (h : CurAt W S c s0) => key5_any h tMachine
  have hl1 := Nat.le_trans (key_ws tMachine s0) hl0
  obtain ⟨t1, e1⟩ : ∃ x, keyK tMachine s0 = x := ⟨_, rfl⟩
  simp only [e1] at hc1 hl1 ⊢
  have HC1 := hide (show ∀ (W : World) (S : Nat → Prop) (c : Nat), CurAt W S c s0 → Calls Tryz.prog 28 #[.agg #[.pointer (some ⟨c, 0, none⟩)], .string ⟨#[109, 97, 99, 104, 105, 110, 101]⟩] W (CurP S c W t1 (.tuple #[])) from hc1)
  clear hc1 e1
  have hc2 := fun (W : World) (S : Nat → Prop) (c : Nat) (h : CurAt W S c t1) => reg5_any h
  have hl2 := Nat.le_trans (num_ws t1) hl1
  have hi1 := numC_in t1
  obtain ⟨⟨x1, t2⟩, e2⟩ : ∃ x, numC 0 64 t1 = x := ⟨_, rfl⟩
  simp only [e2] at hc2 hl2 hi1 ⊢
  have HC2 := hide hc2
  have HI1 := hide hi1
  clear hc2 e2
  have hc3 := fun (W : World) (S : Nat → Prop) (c : Nat) (h : CurAt W S c t2) => key5_any h tArgs
  have hl3 := Nat.le_trans (key_ws tArgs t2) hl2
  obtain ⟨t3, e3⟩ : ∃ x, keyK tArgs t2 = x := ⟨_, rfl⟩
  simp only [e3] at hc3 hl3 ⊢
  have HC3 := hide (show ∀ (W : World) (S : Nat → Prop) (c : Nat), CurAt W S c t2 → Calls Tryz.prog 28 #[.agg #[.pointer (some ⟨c, 0, none⟩)], .string ⟨#[97, 114, 103, 115]⟩] W (CurP S c W t3 (.tuple #[])) from hc3)
  clear hc3 e3
  have hc4 := fun (W : World) (S : Nat → Prop) (c : Nat) (h : CurAt W S c t3) => regs5_any h (Nat.le_trans (fuel_le _) hl3)
  have hl4 : (regsC goA t3).2.ws.length ≤ 1099511627776 := Nat.le_trans (regsF_ws (go := goA) (fuelC t3) t3) hl3
  obtain ⟨⟨l1, t4⟩, e4⟩ : ∃ x, regsC goA t3 = x := ⟨_, rfl⟩
  simp only [e4] at hc4 hl4 ⊢
  have HC4 := hide hc4
  clear hc4 e4
  have hc5 := fun (W : World) (S : Nat → Prop) (c : Nat) (h : CurAt W S c t4) => key5_any h tRet
  have hl5 := Nat.le_trans (key_ws tRet t4) hl4
  obtain ⟨t5, e5⟩ : ∃ x, keyK tRet t4 = x := ⟨_, rfl⟩
  simp only [e5] at hc5 hl5 ⊢
  have HC5 := hide (show ∀ (W : World) (S : Nat → Prop) (c : Nat), CurAt W S c t4 → Calls Tryz.prog 28 #[.agg #[.pointer (some ⟨c, 0, none⟩)], .string ⟨#[114, 101, 116]⟩] W (CurP S c W t5 (.tuple #[])) from hc5)
  clear hc5 e5
  have hc6 := fun (W : World) (S : Nat → Prop) (c : Nat) (h : CurAt W S c t5) => reg5_any h
  have hl6 := Nat.le_trans (num_ws t5) hl5
  have hi2 := numC_in t5
  obtain ⟨⟨x2, t6⟩, e6⟩ : ∃ x, numC 0 64 t5 = x := ⟨_, rfl⟩
  simp only [e6] at hc6 hl6 hi2 ⊢
  have HC6 := hide hc6
  have HI2 := hide hi2
  clear hc6 e6
  have hc7 := fun (W : World) (S : Nat → Prop) (c : Nat) (h : CurAt W S c t6) => key5_any h tSaved
  have hl7 := Nat.le_trans (key_ws tSaved t6) hl6
  obtain ⟨t7, e7⟩ : ∃ x, keyK tSaved t6 = x := ⟨_, rfl⟩
  simp only [e7] at hc7 hl7 ⊢
  have HC7 := hide (show ∀ (W : World) (S : Nat → Prop) (c : Nat), CurAt W S c t6 → Calls Tryz.prog 28 #[.agg #[.pointer (some ⟨c, 0, none⟩)], .string ⟨#[115, 97, 118, 101, 100]⟩] W (CurP S c W t7 (.tuple #[])) from hc7)
  clear hc7 e7
  have hc8 := fun (W : World) (S : Nat → Prop) (c : Nat) (h : CurAt W S c t7) => regs5_any h (Nat.le_trans (fuel_le _) hl7)
  have hl8 : (regsC goA t7).2.ws.length ≤ 1099511627776 := Nat.le_trans (regsF_ws (go := goA) (fuelC t7) t7) hl7
  obtain ⟨⟨l2, t8⟩, e8⟩ : ∃ x, regsC goA t7 = x := ⟨_, rfl⟩
  simp only [e8] at hc8 hl8 ⊢
  have HC8 := hide hc8
  clear hc8 e8
  have hc9 := fun (W : World) (S : Nat → Prop) (c : Nat) (h : CurAt W S c t8) => cErr h
  unfold errV at hc9
  obtain ⟨⟨el, ec, ee⟩, e9⟩ : ∃ x, errC t8 = x := ⟨_, rfl⟩
  simp only [e9] at hc9 ⊢
  have HC9 := hide hc9
  clear hc9 e9
  clear hl0 hl1 hl2 hl3 hl4 hl5 hl6 hl7 hl8 hi1 hi2
  clear hv hg hM
  go_enter Tryz.func7, Tryz.ntmps7
  go_wp2_with (go_at_call 27; refine HOV.out.mono ?_; rintro e w1 ⟨rfl, hat1, hb1⟩; refine Hd.out ?_)
  refine hide ?_
  obtain ⟨c, hc⟩ : ∃ c, W0.heap.size = c := ⟨_, rfl⟩
  obtain ⟨R, hR⟩ : ∃ R, w1.heap.size = R := ⟨_, rfl⟩
  rw [hc] at hat1 hb1
  rw [hc, HM.out]
  have hcM : c = M + 1 := by rw [← hc]; exact HZ0.out
  have hcl := hat1.lt
  obtain ⟨S1, hS1⟩ : ∃ S1 : Nat → Prop, S1 = fun b => c < b ∧ b < w1.heap.size := ⟨_, rfl⟩
  rw [← hS1] at hat1
  obtain ⟨W2, hW2⟩ : ∃ W2, w1.alloc (.cells #[.pointer (some ⟨c, 0, none⟩)] 50) = W2 := ⟨_, rfl⟩
  have HP2 := hide (show PAt W2 M M R c S1 (.slice none 0 0) (.slice none 0 0) ⟨0, [], 0, []⟩ s0 from ⟨by rw [← hW2]; exact (Below.heap_alloc w1 _ M (by omega)).trans ((hb1.block M (by omega)).trans HR0.out), by rw [← hW2, ← hR]; exact cell_of_row _ _ _ _ _ (0, 0) (heap_alloc_new w1 _), by rw [← hW2]; exact hat1.alloc _, OwnL.nil_ _ _ _ _, OwnL.nil_ _ _ _ _, by omega, by omega, by rw [← hW2, ← hR]; simp, Nat.le_refl _, fun b hb => by rw [hS1] at hb; omega⟩)
  have HBW2 := hide (show Below M w W2 from HB0.out.trans (by rw [← hW2]; exact Below.trans ⟨hb1.os, hb1.tape, hb1.output, hb1.size, fun b hb => hb1.block b (by omega)⟩ ((Below.refl _ _).alloc (by omega) _)))
  have kr2 := HP2.out.rdr
  clear hW0 hat1 hb1 HOV HR0 HB0 HZ0 hc hcM hcl hS1
  -- GEN
  go_wp2_with fail
  clear hR hW2
  have hMR : M < R := by have := HP2.out.o1; have := HP2.out.o2; omega
  go_wp2_with (go_at_call 28; refine (HC1.out _ _ _ HP2.out.cur).mono ?_; rintro e W3 ⟨rfl, hat, hon⟩; refine Hd.out ?_)
  have HP3 := hide (HP2.out.call hon hat)
  have HBW3 := hide (HBW2.out.trans (hon.below (by have := HP2.out.o1; omega) (by have := HP2.out.lt; omega)))
  clear hat hon HC1 kr2 HP2 HBW2
  have kr3 := HP3.out.rdr
  refine hide ?_
  go_wp2_with (go_at_call 29; refine (HC2.out _ _ _ HP3.out.cur).mono ?_; rintro e W4 ⟨rfl, hat, hon⟩; refine Hd.out ?_)
  have HP4 := hide (HP3.out.call hon hat)
  have HBW4 := hide (HBW3.out.trans (hon.below (by have := HP3.out.o1; omega) (by have := HP3.out.lt; omega)))
  clear hat hon HC2 kr3 HP3 HBW3
  obtain ⟨W5, hW5⟩ : ∃ W', W4.setCell ⟨M, 0, none⟩ (.int .i64 x1) = W' := ⟨_, rfl⟩
  have HP5 := hide (show PAt W5 M M R c S1 (.slice none 0 0) (.slice none 0 0) ⟨x1, [], 0, []⟩ t2 by rw [← hW5]; exact HP4.out.set (m' := ⟨x1, [], 0, []⟩) (j := 0) rfl HP4.out.a HP4.out.v)
  have HBW5 := hide (show Below M w W5 by rw [← hW5]; exact HBW4.out.setCell (Nat.le_refl _) _)
  have fz4 := HP4.out.fz 0
  have lt4 := HP4.out.lt
  have kr4 := HP4.out.rdr
  have cl4 := HP4.out.cells.1
  have kr5 := HP5.out.rdr
  clear HP4 HBW4
  refine hide ?_
  go_wp2_with fail
  clear hW5 fz4 lt4 kr4 cl4
  go_wp2_with (go_at_call 28; refine (HC3.out _ _ _ HP5.out.cur).mono ?_; rintro e W6 ⟨rfl, hat, hon⟩; refine Hd.out ?_)
  have HP6 := hide (HP5.out.call hon hat)
  have HBW6 := hide (HBW5.out.trans (hon.below (by have := HP5.out.o1; omega) (by have := HP5.out.lt; omega)))
  clear hat hon HC3 kr5 HP5 HBW5
  have kr6 := HP6.out.rdr
  refine hide ?_
  go_wp2_with (go_at_call 30; refine (HC4.out _ _ _ HP6.out.cur).mono ?_; rintro e W7 ⟨A1, k1, rfl, hown, hat, hon⟩; refine Hd.out ?_)
  have HP7 := hide (HP6.out.call hon hat)
  have HBW7 := hide (HBW6.out.trans (hon.below (by have := HP6.out.o1; omega) (by have := HP6.out.lt; omega)))
  have hown1 := hide (show OwnL W7 (R + 1) 3 (fun _ => False) (.slice A1 l1.length k1) l1 from hown.base (by have := HP6.out.o3; omega))
  clear hown
  clear hat hon HC4 kr6 HP6 HBW6
  obtain ⟨W8, hW8⟩ : ∃ W', W7.setCell ⟨M, 1, none⟩ (.slice A1 l1.length k1) = W' := ⟨_, rfl⟩
  have HP8 := hide (show PAt W8 M M R c S1 (.slice A1 l1.length k1) (.slice none 0 0) ⟨x1, l1, 0, []⟩ t4 by rw [← hW8]; exact HP7.out.set (m' := ⟨x1, l1, 0, []⟩) (j := 1) rfl hown1.out HP7.out.v)
  have HBW8 := hide (show Below M w W8 by rw [← hW8]; exact HBW7.out.setCell (Nat.le_refl _) _)
  have fz7 := HP7.out.fz 1
  have lt7 := HP7.out.lt
  have kr7 := HP7.out.rdr
  have cl7 := HP7.out.cells.2.1
  have kr8 := HP8.out.rdr
  clear HP7 HBW7 hown1
  refine hide ?_
  go_wp2_with fail
  clear hW8 fz7 lt7 kr7 cl7
  go_wp2_with (go_at_call 28; refine (HC5.out _ _ _ HP8.out.cur).mono ?_; rintro e W9 ⟨rfl, hat, hon⟩; refine Hd.out ?_)
  have HP9 := hide (HP8.out.call hon hat)
  have HBW9 := hide (HBW8.out.trans (hon.below (by have := HP8.out.o1; omega) (by have := HP8.out.lt; omega)))
  clear hat hon HC5 kr8 HP8 HBW8
  have kr9 := HP9.out.rdr
  refine hide ?_
  go_wp2_with (go_at_call 29; refine (HC6.out _ _ _ HP9.out.cur).mono ?_; rintro e W10 ⟨rfl, hat, hon⟩; refine Hd.out ?_)
  have HP10 := hide (HP9.out.call hon hat)
  have HBW10 := hide (HBW9.out.trans (hon.below (by have := HP9.out.o1; omega) (by have := HP9.out.lt; omega)))
  clear hat hon HC6 kr9 HP9 HBW9
  obtain ⟨W11, hW11⟩ : ∃ W', W10.setCell ⟨M, 2, none⟩ (.int .i64 x2) = W' := ⟨_, rfl⟩
  have HP11 := hide (show PAt W11 M M R c S1 (.slice A1 l1.length k1) (.slice none 0 0) ⟨x1, l1, x2, []⟩ t6 by rw [← hW11]; exact HP10.out.set (m' := ⟨x1, l1, x2, []⟩) (j := 2) rfl HP10.out.a HP10.out.v)
  have HBW11 := hide (show Below M w W11 by rw [← hW11]; exact HBW10.out.setCell (Nat.le_refl _) _)
  have fz10 := HP10.out.fz 2
  have lt10 := HP10.out.lt
  have kr10 := HP10.out.rdr
  have cl10 := HP10.out.cells.2.2.1
  have kr11 := HP11.out.rdr
  clear HP10 HBW10
  refine hide ?_
  go_wp2_with fail
  clear hW11 fz10 lt10 kr10 cl10
  go_wp2_with (go_at_call 28; refine (HC7.out _ _ _ HP11.out.cur).mono ?_; rintro e W12 ⟨rfl, hat, hon⟩; refine Hd.out ?_)
  have HP12 := hide (HP11.out.call hon hat)
  have HBW12 := hide (HBW11.out.trans (hon.below (by have := HP11.out.o1; omega) (by have := HP11.out.lt; omega)))
  clear hat hon HC7 kr11 HP11 HBW11
  have kr12 := HP12.out.rdr
  refine hide ?_
  go_wp2_with (go_at_call 30; refine (HC8.out _ _ _ HP12.out.cur).mono ?_; rintro e W13 ⟨A2, k2, rfl, hown, hat, hon⟩; refine Hd.out ?_)
  have HP13 := hide (HP12.out.call hon hat)
  have HBW13 := hide (HBW12.out.trans (hon.below (by have := HP12.out.o1; omega) (by have := HP12.out.lt; omega)))
  have hown2 := hide (show OwnL W13 (R + 1) 3 (fun _ => False) (.slice A2 l2.length k2) l2 from hown.base (by have := HP12.out.o3; omega))
  clear hown
  clear hat hon HC8 kr12 HP12 HBW12
  obtain ⟨W14, hW14⟩ : ∃ W', W13.setCell ⟨M, 3, none⟩ (.slice A2 l2.length k2) = W' := ⟨_, rfl⟩
  have HP14 := hide (show PAt W14 M M R c S1 (.slice A1 l1.length k1) (.slice A2 l2.length k2) ⟨x1, l1, x2, l2⟩ t8 by rw [← hW14]; exact HP13.out.set (m' := ⟨x1, l1, x2, l2⟩) (j := 3) rfl HP13.out.a hown2.out)
  have HBW14 := hide (show Below M w W14 by rw [← hW14]; exact HBW13.out.setCell (Nat.le_refl _) _)
  have fz13 := HP13.out.fz 3
  have lt13 := HP13.out.lt
  have kr13 := HP13.out.rdr
  have cl13 := HP13.out.cells.2.2.2
  have kr14 := HP14.out.rdr
  clear HP13 HBW13 hown2
  refine hide ?_
  obtain ⟨q0, q1, q2, q3⟩ := HP14.out.cells
  have lt14 := HP14.out.lt
  have z0 := HP14.out.fz 0
  have z1 := HP14.out.fz 1
  have z2 := HP14.out.fz 2
  have z3 := HP14.out.fz 3
  have HS1 := hide (HP14.out.a.sl (S' := fun b => M < b) (fun b _ h => by rcases h with h | h; exact h.elim; have := HP14.out.o1; have := HP14.out.o2; omega))
  have HS2 := hide (HP14.out.v.sl (S' := fun b => M < b) (fun b _ h => by rcases h with h | h; exact h.elim; have := HP14.out.o1; have := HP14.out.o2; omega))
  have HROW := hide HP14.out.row
  have HERR := hide (HC9.out _ _ _ HP14.out.cur)
  clear HC9 HP14 HI1
  by_cases he : ee = 0
  · subst he
    obtain ⟨mm, hmm⟩ : ∃ mm : Machine, mm = ⟨x1, l1, x2, l2⟩ := ⟨_, rfl⟩
    have HRI := hide (fun (W : World) (h1 : Sl W (fun b => M < b) A1 l1.length k1 l1) (h2 : Sl W (fun b => M < b) A2 l2.length k2 l2) => rightm_any W _ _ ⟨x1, l1, x2, l2⟩ A1 A2 l1.length k1 l2.length k2 h1 h2 HI2.out)
    cases hr : rightM ⟨x1, l1, x2, l2⟩ with
    | true =>
      rw [hr] at HRI
      have hg : endM ⟨x1, l1, x2, l2⟩ 0 = (⟨x1, l1, x2, l2⟩, 0) := by unfold endM; rw [if_neg (by simp), if_pos hr]
      have HG := hide hg
      clear hr hg hmm
      go_wp2_with (first | (go_at_call 31; refine HERR.out.mono ?_; rintro e _ ⟨rfl, ux, rfl⟩) | (go_at_call 14; refine (HRI.out _ (HS1.out.ext _) (HS2.out.ext _)).mono ?_; rintro e _ ⟨rfl, uy, rfl⟩))
      refine bodyPost_ret (v := .tuple #[.agg #[.int .i64 x1, .slice A1 l1.length k1, .int .i64 x2, .slice A2 l2.length k2], .int .i64 0]) (results_mach Tryz.results7 _ _ rfl ((ext_block _ uy M (by rw [size_ext]; simp only [World.size_setCell]; omega)).trans ((ext_block _ ux M (by simp only [World.size_setCell]; omega)).trans (row_set4 HROW.out (.int .i64 x1) (.slice A1 l1.length k1) (.int .i64 x2) (.slice A2 l2.length k2))))) rfl ?_
      rw [HG.out]
      refine ⟨A1, _, k1, A2, _, k2, rfl, ?_, ?_, ?_⟩
      · have h := (((HS1.out.setCell (a := ⟨M, 0, none⟩) (by show ¬ M < M; omega) (.int .i64 x1)).setCell (a := ⟨M, 1, none⟩) (by show ¬ M < M; omega) (.slice A1 l1.length k1)).setCell (a := ⟨M, 2, none⟩) (by show ¬ M < M; omega) (.int .i64 x2)).setCell (a := ⟨M, 3, none⟩) (by show ¬ M < M; omega) (.slice A2 l2.length k2)
        exact ((h.ext ux).ext uy).more fun b _ h => by show w.heap.size ≤ b; rw [HM.out]; exact Nat.le_of_lt h
      · have h := (((HS2.out.setCell (a := ⟨M, 0, none⟩) (by show ¬ M < M; omega) (.int .i64 x1)).setCell (a := ⟨M, 1, none⟩) (by show ¬ M < M; omega) (.slice A1 l1.length k1)).setCell (a := ⟨M, 2, none⟩) (by show ¬ M < M; omega) (.int .i64 x2)).setCell (a := ⟨M, 3, none⟩) (by show ¬ M < M; omega) (.slice A2 l2.length k2)
        exact ((h.ext ux).ext uy).more fun b _ h => by show w.heap.size ≤ b; rw [HM.out]; exact Nat.le_of_lt h
      · rw [HM.out]; exact ((((((HBW14.out.setCell (p := ⟨M, 0, none⟩) (Nat.le_refl _) _).setCell (p := ⟨M, 1, none⟩) (Nat.le_refl _) _).setCell (p := ⟨M, 2, none⟩) (Nat.le_refl _) _).setCell (p := ⟨M, 3, none⟩) (Nat.le_refl _) _).ext (by simp only [World.size_setCell]; omega) ux).ext (by rw [size_ext]; simp only [World.size_setCell]; omega) uy)
    | false =>
      rw [hr] at HRI
      have hg : endM ⟨x1, l1, x2, l2⟩ 0 = (zeroM, 2) := by unfold endM; rw [if_neg (by simp), if_neg (by rw [hr]; decide)]
      have HG := hide hg
      clear hr hg hmm
      go_wp2_with (first | (go_at_call 31; refine HERR.out.mono ?_; rintro e _ ⟨rfl, ux, rfl⟩) | (go_at_call 14; refine (HRI.out _ (HS1.out.ext _) (HS2.out.ext _)).mono ?_; rintro e _ ⟨rfl, uy, rfl⟩))
      refine bodyPost_ret (v := .tuple #[.agg #[.int .i64 0, .slice none 0 0, .int .i64 0, .slice none 0 0], .int .i64 2]) (results_mach Tryz.results7 _ _ rfl ((ext_block _ uy M (by rw [size_ext]; simp only [World.size_setCell]; omega)).trans ((ext_block _ ux M (by simp only [World.size_setCell]; omega)).trans (row_set4 HROW.out (.int .i64 0) (.slice none 0 0) (.int .i64 0) (.slice none 0 0))))) rfl ?_
      rw [HG.out]
      refine ⟨none, 0, 0, none, 0, 0, rfl, Sl.nil, Sl.nil, ?_⟩
      · rw [HM.out]; exact ((((((HBW14.out.setCell (p := ⟨M, 0, none⟩) (Nat.le_refl _) _).setCell (p := ⟨M, 1, none⟩) (Nat.le_refl _) _).setCell (p := ⟨M, 2, none⟩) (Nat.le_refl _) _).setCell (p := ⟨M, 3, none⟩) (Nat.le_refl _) _).ext (by simp only [World.size_setCell]; omega) ux).ext (by rw [size_ext]; simp only [World.size_setCell]; omega) uy)
  · have heb : (ee == 0) = false := by simp [he]
    have HG := hide (show endM ⟨x1, l1, x2, l2⟩ ee = (zeroM, ee) by unfold endM; rw [if_pos he])
    clear he
    go_wp2_with (first | (go_at_call 31; refine HERR.out.mono ?_; rintro e _ ⟨rfl, ux, rfl⟩))
    refine bodyPost_ret (v := .tuple #[.agg #[.int .i64 0, .slice none 0 0, .int .i64 0, .slice none 0 0], .int .i64 ee]) (results_mach Tryz.results7 _ _ rfl ((ext_block _ ux M (by simp only [World.size_setCell]; omega)).trans (row_set4 HROW.out (.int .i64 0) (.slice none 0 0) (.int .i64 0) (.slice none 0 0)))) rfl ?_
    rw [HG.out]
    refine ⟨none, 0, 0, none, 0, 0, rfl, Sl.nil, Sl.nil, ?_⟩
    · rw [HM.out]; exact (((((HBW14.out.setCell (p := ⟨M, 0, none⟩) (Nat.le_refl _) _).setCell (p := ⟨M, 1, none⟩) (Nat.le_refl _) _).setCell (p := ⟨M, 2, none⟩) (Nat.le_refl _) _).setCell (p := ⟨M, 3, none⟩) (Nat.le_refl _) _).ext (by simp only [World.size_setCell]; omega) ux)
end Go.Proofs.YtcfimcghckjmeaaGreatDoor
