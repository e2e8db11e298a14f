/- law05: walks of the document's key and numbers. law05: walk of the document's Parse. -/
import Derived.Test.YtcfimcghckjmeaaGreatDoorH4
import Derived.Test.YtcfimcghckjmeaaGreatDoorH1
set_option linter.unusedSimpArgs false
set_option linter.unusedVariables false
namespace Go.Proofs.YtcfimcghckjmeaaGreatDoor
open Go.RowKit

section
variable {w : World} {S : Nat → Prop} {c : Nat} {s : Cur}
set_option maxRecDepth 100000 in
set_option maxHeartbeats 4000000 in
theorem dkey5_any (h : DocAt w S c s) (t : ByteArray) : Calls Tryz.prog 33 #[.pointer (some ⟨c, 0, none⟩), .string t] w (DocP S c w (keyK t s) (.tuple #[])) := by
  have HK := hide (dKey h t)
  clear h
  cases hb : isC (.nm t) s with
  | true =>
    have hg : keyK t s = popC s := by unfold keyK; rw [hb]; rfl
    have ho : overC true s = popC s := rfl
    rw [hb, ho] at HK
    rw [hg]
    clear hg ho hb
    go_enter Tryz.func33, Tryz.ntmps33
    go_wp2_with (go_at_call 61; refine HK.out.mono ?_; rintro e w2 ⟨rfl, hat, hon⟩)
    go_end0
    exact ⟨rfl, hat, hon⟩
  | false =>
    have hg : keyK t s = failC 7 s := by unfold keyK; rw [hb]; rfl
    have ho : overC false s = s := rfl
    rw [hb, ho] at HK
    rw [hg]
    clear hg ho hb
    go_enter Tryz.func33, Tryz.ntmps33
    go_wp2_with (first | (go_at_call 61; refine HK.out.mono ?_; rintro e w2 ⟨rfl, hat, hon⟩) | (go_at_call 62; refine (dFail hat 7).mono ?_; rintro e w3 ⟨rfl, hat3, hon3⟩))
    go_end0
    exact ⟨rfl, hat3, hon.trans hon3⟩
theorem DocAt.left (h : DocAt w S c s) : leftW c w = fuelC s := by
  obtain ⟨A, n, k, k0, k1, _, _, hs⟩ := h.at_
  unfold leftW fuelC
  rw [k0, k1]
  have := hs.len
  rw [this]
def NumsP (S : Nat → Prop) (c : Nat) (l : List Int) (s' : Cur) (w : World) (e : Ending) (w' : World) : Prop :=
  ∃ A k, e = .returned (.slice A l.length k) ∧ OwnL w' w.heap.size 3 (fun _ => False) (.slice A l.length k) l ∧ DocAt w' S c s' ∧ Only c w w'
set_option maxRecDepth 100000 in
set_option maxHeartbeats 8000000 in
theorem numbers5_any (h : DocAt w S c s) (hl : fuelC s ≤ 1099511627776) : Calls Tryz.prog 35 #[.pointer (some ⟨c, 0, none⟩)] w (NumsP S c (regsC goB s).1 (regsC goB s).2 w) := by
  obtain ⟨i0, hi, hz, hz1, hz2⟩ := info_parts info_int
  have HI0 := hide hi; have HZ := hide hz; have HZ1 := hide hz1; have HZ2 := hide hz2
  clear hi hz hz1 hz2
  have hlt := h.lt
  obtain ⟨B, hB⟩ : ∃ B, w.heap.size = B := ⟨_, rfl⟩
  have HBQ := hide hB
  rw [hB] at hlt
  obtain ⟨S1, hS1⟩ : ∃ S1 : Nat → Prop, S1 = fun b => S b ∧ b < B := ⟨_, rfl⟩
  have HS1 := hide hS1
  have HA1 := hide (show DocAt w S1 c s from h.moreS (fun b hb hS => by rw [hS1]; exact ⟨hS, by omega⟩) (by rw [hS1]; exact fun e => h.nS e.1))
  have HNS := hide h.nS
  obtain ⟨RR, hRR⟩ : ∃ RR, regsC goB s = RR := ⟨_, rfl⟩
  have HLEN := hide (show RR.1.length ≤ 1099511627776 by rw [← hRR]; exact Nat.le_trans (regs_len _ _) hl)
  rw [hRR]
  have HRR := hide hRR
  have hBw : B ≤ w.heap.size := by omega
  clear h hS1 hRR hl hB
  go_enter Tryz.func35, Tryz.ntmps35
  go_wp2_with fail
  go_loopw [3] (fun o wr => ∃ (acc : List Int) (A : Option Addr) (k n : Nat) (s' : Cur), o = .slice A n k ∧ acc.length = n ∧ OwnL wr B 3 (fun _ => False) o acc ∧ DocAt wr S1 c s' ∧ Only c w wr ∧ B ≤ wr.heap.size ∧ RR = (acc ++ (regsC goB s').1, (regsC goB s').2)) (fun _ wr => leftW c wr)
  case atStart => exact ⟨[], none, 0, 0, s, rfl, rfl, OwnL.nil_ _ _ _ _, HA1.out, Only.refl _ _, hBw, by rw [HRR.out]; rfl⟩
  case round =>
    obtain ⟨acc, A, k, n, s', rfl, hn, hown, hat, hon, hsz, hrr⟩ := hrel
    have HOW := hide hown; have HAT := hide hat; have HON := hide hon; have HR := hide hrr; have HN := hide hn
    have HM := hide (dMore hat)
    have HLE := hide hat.left
    have hn9 : n ≤ 9223372036854775807 := (hown.sl (S' := fun _ => True) (fun _ _ _ => trivial)).nle
    have hok := hat.ok
    have hatc := hat.at_
    have hcl := hat.lt
    clear hown hat hon hrr hn
    cases hm : moreC s' with
    | false =>
      rw [hm] at HM
      have hgo : goB s' = false := by
        cases hh : goB s' with
        | false => rfl
        | true =>
          obtain ⟨q1, q2⟩ := goB_ok s' hh
          unfold moreC at hm
          rw [q1] at hm
          cases hw : s'.ws with
          | nil => exact absurd hw q2
          | cons x l => rw [hw] at hm; cases hm
      have hg := regsC_no hgo
      rw [hg] at HR
      have HR2 := hide HR.out
      clear hm hgo hg HR hatc
      go_wp2_with (go_at_call 63; refine HM.out.mono ?_; rintro e w' ⟨rfl, rfl⟩)
      go_ret
      rw [HR2.out, List.append_nil]
      obtain rfl := HN.out
      exact ⟨A, k, rfl, by rw [HBQ.out]; exact HOW.out, HAT.out.moreS (fun b _ h => by rw [HS1.out] at h; exact h.1) HNS.out, HON.out⟩
    | true =>
      rw [hm] at HM
      obtain ⟨he, x, l, hw⟩ : s'.e = 0 ∧ ∃ x l, s'.ws = x :: l := by
        unfold moreC at hm
        simp only [Bool.and_eq_true, beq_iff_eq] at hm
        refine ⟨hm.1, ?_⟩
        cases hw : s'.ws with
        | nil => rw [hw] at hm; exact absurd hm.2 (by decide)
        | cons x l => exact ⟨x, l, rfl⟩
      obtain ⟨Aw, nw, kw, w0, w1, _, _, hsl⟩ := hatc
      have hnw : 0 < nw := by rw [← hsl.len, hw]; simp
      obtain ⟨bw, ofw, xw, hAw, hbw, hxw, j0, j1, j2, j3, j4, cw0, _⟩ := at_Word hsl hnw
      have hxx : xw = x := by rw [hw] at hxw; simpa using hxw.symm
      subst hxx hAw
      simp only [Nat.zero_mul, Nat.add_zero] at cw0
      have hgb : goB s' = (xw.kind == 2) := by unfold goB headC; rw [if_pos he, hw]; rfl
      obtain ⟨kd, hkd⟩ : ∃ kd, xw.kind = kd := ⟨_, rfl⟩
      rw [hkd] at cw0 hgb j0
      have hnw9 := hsl.nle
      clear hm hsl hxw j0 j1 j2 j3 j4 he hkd
      by_cases h2 : kd = 2
      · subst h2
        have hgo : goB s' = true := hgb
        have hg := regsC_go goB_ok hgo
        rw [hg] at HR
        have HFU := hide (num_fuel (goB_ok s' hgo).1 (goB_ok s' hgo).2)
        have HREG := hide (dNum HAT.out 0 64)
        have HIN := hide (numC_in s')
        obtain ⟨r, hr⟩ : ∃ r, numC 0 64 s' = r := ⟨_, rfl⟩
        rw [hr] at HR HFU HREG HIN
        obtain ⟨x, s2⟩ := r
        simp only at HR HFU HREG HIN
        have HR2 := hide HR.out
        have HCL := hide (show ∀ w2, Only c wr w2 → OwnL w2 B 3 (fun _ => False) (.slice A n k) acc ∧ B ≤ w2.heap.size from fun w2 h2 => ⟨HOW.out.keep h2.size (fun _ hf => hf.elim) (fun g hg => h2.block g (HOW.out.below_ g hg).2 (by have := (HOW.out.below_ g hg).1; omega)), by have := h2.size; omega⟩)
        have HLN := hide (show acc.length + 1 ≤ 1099511627776 by have h1 := HLEN.out; rw [HR2.out] at h1; simp only [List.length_append, List.length_cons] at h1; omega)
        clear hgb hgo hg HR hr hw hok
        go_wp2_with (first | (go_at_call 63; refine HM.out.mono ?_; rintro e w' ⟨rfl, rfl⟩) | (go_at_call 34; refine HREG.out.mono ?_; rintro e w2 ⟨rfl, hat2, hon2⟩; refine Hd.out ?_))
        have HAT2 := hide hat2; have HON2 := hide hon2
        obtain ⟨ho2, hsz2⟩ := HCL.out w2 hon2
        have HO2 := hide ho2
        clear hat2 hon2 ho2 HM hsz w0 w1 cw0 hbw hcl
        refine hide ?_
        go_wp2_with (at_builtin; refine wpList_push (α := Int) w2 [.int .i64 x] 3 rfl (.tmp 16) (.tmp 19) 23 rfl B 3 i0 _ 8 Tryz.underlying23 HI0.out HZ.out HZ1.out HZ2.out rfl (by decide) (fun _ => False) (fun _ => False) (.slice A n k) acc x rfl HO2.out _ rfl rfl ⟨rfl, HIN.out⟩ (fun _ h => h) (fun _ _ h => h) (fun _ h => h.elim) (by have := HLN.out; omega) (by have := HLN.out; omega) hsz2 ?_; intro v' w3 hown' hg hv')
        obtain ⟨A3, k3, rfl⟩ := hown'.form
        have HO3 := hide hown'
        have HB3 := hide (below_push (Below.refl B w2) HO2.out hsz2 hg)
        clear hown' hg hv'
        have hat3 : DocAt w3 S1 c s2 := HAT2.out.keep HB3.out.size (HB3.out.block c hlt) fun b hS _ => HB3.out.block b (by rw [HS1.out] at hS; exact hS.2)
        have HAT3 := hide hat3
        have hsz3 : B ≤ w3.heap.size := by have := HB3.out.size; omega
        have HON3 := hide (show Only c w w3 from (HON.out.trans HON2.out).then_below HB3.out (by rw [HBQ.out]; exact Nat.le_refl _))
        clear hat3 hsz2
        go_wp2_with fail
        go_roundw
        case rel => exact ⟨acc ++ [x], A3, k3, _, s2, rfl, rfl, HO3.out, HAT3.out, HON3.out, hsz3, by rw [HR2.out]; simp⟩
        case measure => rw [HAT3.out.left, HLE.out]; exact HFU.out
      · have hkb : (kd == 2) = false := by simpa using h2
        have hgo : goB s' = false := by rw [hgb, hkb]
        have hg := regsC_no hgo
        rw [hg] at HR
        have HR2 := hide HR.out
        clear hgb hgo hg HR hw hok h2
        go_wp2_with (go_at_call 63; refine HM.out.mono ?_; rintro e w' ⟨rfl, rfl⟩)
        go_ret
        rw [HR2.out, List.append_nil]
        obtain rfl := HN.out
        exact ⟨A, k, rfl, by rw [HBQ.out]; exact HOW.out, HAT.out.moreS (fun b _ h => by rw [HS1.out] at h; exact h.1) HNS.out, HON.out⟩
end
end Go.Proofs.YtcfimcghckjmeaaGreatDoor
set_option linter.unusedSimpArgs false
set_option linter.unusedVariables false
namespace Go.Proofs.YtcfimcghckjmeaaGreatDoor
open Go.RowKit

/-- The machine that is read, in its own block M; what is returned, in its block Z; the document's cursor. -/
structure QAt (W : World) (B Z M c : Nat) (S : Nat → Prop) (v1 v2 : Value) (m : Machine) (s : Cur) : Prop where
  zro : W.heap[Z]? = some (.cells #[.int .i64 0, .slice none 0 0, .int .i64 0, .slice none 0 0] 25 (0, 0))
  row : W.heap[M]? = some (.cells #[.int .i64 m.regs, v1, .int .i64 m.ret, v2] 25 (0, 0))
  cur : DocAt W S c s
  a : OwnL W (M + 1) 3 (fun _ => False) v1 m.args
  v : OwnL W (M + 1) 3 (fun _ => False) v2 m.saved
  o1 : Z < c
  o2 : c < M
  o3 : M < W.heap.size
  o4 : B ≤ Z
  o5 : ∀ b, S b → b < M ∧ b ≠ Z
section
variable {W W' : World} {B Z M c : Nat} {S : Nat → Prop} {v1 v2 : Value} {m : Machine} {s s' : Cur}
theorem QAt.call (h : QAt W B Z M c S v1 v2 m s) (hon : Only c W W') (hat : DocAt W' S c s') : QAt W' B Z M c S v1 v2 m s' where
  zro := (hon.block Z (by have := h.o1; have := h.o2; have := h.o3; omega) (by have := h.o1; omega)).trans h.zro
  row := (hon.block M h.o3 (by have := h.o2; omega)).trans h.row
  cur := hat
  a := h.a.keep hon.size (fun _ hf => hf.elim) fun g hg => hon.block g (h.a.below_ g hg).2 (by have := (h.a.below_ g hg).1; have := h.o2; omega)
  v := h.v.keep hon.size (fun _ hf => hf.elim) fun g hg => hon.block g (h.v.below_ g hg).2 (by have := (h.v.below_ g hg).1; have := h.o2; omega)
  o1 := h.o1
  o2 := h.o2
  o3 := by have := h.o3; have := hon.size; omega
  o4 := h.o4
  o5 := h.o5
theorem QAt.set (h : QAt W B Z M c S v1 v2 m s) {j : Nat} {x : Value} {v1' v2' : Value} {m' : Machine} (hr : (#[.int .i64 m.regs, v1, .int .i64 m.ret, v2] : Array Value).setIfInBounds j x = #[.int .i64 m'.regs, v1', .int .i64 m'.ret, v2']) (ha : OwnL W (M + 1) 3 (fun _ => False) v1' m'.args) (hv : OwnL W (M + 1) 3 (fun _ => False) v2' m'.saved) : QAt (W.setCell ⟨M, j, none⟩ x) B Z M c S v1' v2' m' s where
  zro := (Below.heap_setCell W ⟨M, j, none⟩ x Z (by show Z ≠ M; have := h.o1; have := h.o2; omega)).trans h.zro
  row := by rw [row_setB h.row, hr]
  cur := h.cur.keep (by simp) (Below.heap_setCell W ⟨M, j, none⟩ x c (by show c ≠ M; have := h.o2; omega)) fun b hS _ => Below.heap_setCell W ⟨M, j, none⟩ x b (by show b ≠ M; have := (h.o5 b hS).1; omega)
  a := ha.setCell (fun e => e) (fun e => by have h5 : M + 1 ≤ M := (ha.below_ _ e).1; omega) x
  v := hv.setCell (fun e => e) (fun e => by have h5 : M + 1 ≤ M := (hv.below_ _ e).1; omega) x
  o1 := h.o1
  o2 := h.o2
  o3 := by have := h.o3; simpa using this
  o4 := h.o4
  o5 := h.o5
theorem QAt.fz (h : QAt W B Z M c S v1 v2 m s) (j : Nat) : W.frozen? ⟨M, j, none⟩ = false := by simp [World.frozen?, h.row]
theorem QAt.fzZ (h : QAt W B Z M c S v1 v2 m s) (j : Nat) : W.frozen? ⟨Z, j, none⟩ = false := by simp [World.frozen?, h.zro]
theorem QAt.cells (h : QAt W B Z M c S v1 v2 m s) : W.cell? ⟨M, 0, none⟩ = some (.int .i64 m.regs) ∧ W.cell? ⟨M, 1, none⟩ = some v1 ∧ W.cell? ⟨M, 2, none⟩ = some (.int .i64 m.ret) ∧ W.cell? ⟨M, 3, none⟩ = some v2 :=
  ⟨cell_of_row W M _ _ _ (0, 0) h.row, cell_of_row W M _ _ _ (0, 0) h.row, cell_of_row W M _ _ _ (0, 0) h.row, cell_of_row W M _ _ _ (0, 0) h.row⟩
theorem QAt.cellsZ (h : QAt W B Z M c S v1 v2 m s) : W.cell? ⟨Z, 0, none⟩ = some (.int .i64 0) ∧ W.cell? ⟨Z, 1, none⟩ = some (.slice none 0 0) ∧ W.cell? ⟨Z, 2, none⟩ = some (.int .i64 0) ∧ W.cell? ⟨Z, 3, none⟩ = some (.slice none 0 0) :=
  ⟨cell_of_row W Z _ _ _ (0, 0) h.zro, cell_of_row W Z _ _ _ (0, 0) h.zro, cell_of_row W Z _ _ _ (0, 0) h.zro, cell_of_row W Z _ _ _ (0, 0) h.zro⟩
end
set_option maxRecDepth 100000 in
set_option maxHeartbeats 8000000 in
theorem dparse5_any (s : ByteArray) (w : World) (hs : s.size ≤ 17179869184) : Calls Tryz.prog 8 #[.string s] w (RetM (parseT goB s) w) := by
  by_cases hbig : 262144 < s.size
  · have hg : parseT goB s = (zeroM, 3) := by unfold parseT; rw [if_pos hbig]
    rw [hg]
    go_enter Tryz.func8, Tryz.ntmps8
    go_wp2_with fail
    refine bodyPost_ret (v := .tuple #[.agg #[.int .i64 0, .slice none 0 0, .int .i64 0, .slice none 0 0], .int .i64 3]) (results_mach Tryz.results8 _ _ rfl (heap_alloc_new w _)) rfl ?_
    exact ⟨none, 0, 0, none, 0, 0, rfl, Sl.nil, Sl.nil, (Below.refl _ _).alloc (Nat.le_refl _) _⟩
  have hg : parseT goB s = endM (readM goB (overT s)).1 (errC (readM goB (overT s)).2).2.2 := by unfold parseT; rw [if_neg hbig]
  rw [hg]
  obtain ⟨Z, hZ⟩ : ∃ Z, w.heap.size = Z := ⟨_, rfl⟩
  have HZ := hide hZ
  obtain ⟨W0, hW0⟩ : ∃ W0, w.alloc (.cells #[.int .i64 0, .slice none 0 0, .int .i64 0, .slice none 0 0] 25) = W0 := ⟨_, rfl⟩
  have HR0 := hide (show W0.heap[Z]? = some (.cells #[.int .i64 0, .slice none 0 0, .int .i64 0, .slice none 0 0] 25 (0, 0)) by rw [← hW0, ← hZ]; exact heap_alloc_new w _)
  have HB0 := hide (show Below Z w W0 by rw [← hW0, ← hZ]; exact (Below.refl _ _).alloc (Nat.le_refl _) _)
  have HZ0 := hide (show W0.heap.size = Z + 1 by rw [← hW0, ← hZ]; simp)
  have HOV := hide (show Calls Tryz.prog 32 #[.string s] W0 (fun e w' => ∃ c, e = .returned (.pointer (some ⟨c, 0, none⟩)) ∧ DocAt w' (fun b => W0.heap.size ≤ b ∧ b < c) c (overT s) ∧ W0.heap.size ≤ c ∧ Below W0.heap.size W0 w') from dOver1 s W0 hs)
  have hl0 := overT_len s (by omega)
  unfold readM
  simp only
  generalize overT s = s0 at hl0 HOV ⊢
  have hc1 := fun (W : World) (S : Nat → Prop) (c : Nat) (h : DocAt W S c s0) => dkey5_any h tMachine
  have hl1 := Nat.le_trans (key_ws tMachine s0) hl0
  obtain ⟨t1, e1⟩ : ∃ x, keyK tMachine s0 = x := ⟨_, rfl⟩
  simp only [e1] at hc1 hl1 ⊢
  have HC1 := hide (show ∀ (W : World) (S : Nat → Prop) (c : Nat), DocAt W S c s0 → Calls Tryz.prog 33 #[.pointer (some ⟨c, 0, none⟩), .string ⟨#[109, 97, 99, 104, 105, 110, 101]⟩] W (DocP S c W t1 (.tuple #[])) from hc1)
  clear hc1 e1
  have hc2 := fun (W : World) (S : Nat → Prop) (c : Nat) (h : DocAt W S c t1) => dNum h 0 64
  have hl2 := Nat.le_trans (num_ws t1) hl1
  have hi1 := numC_in t1
  obtain ⟨⟨x1, t2⟩, e2⟩ : ∃ x, numC 0 64 t1 = x := ⟨_, rfl⟩
  simp only [e2] at hc2 hl2 hi1 ⊢
  have HC2 := hide hc2
  have HI1 := hide hi1
  clear hc2 e2
  have hc3 := fun (W : World) (S : Nat → Prop) (c : Nat) (h : DocAt W S c t2) => dkey5_any h tArgs
  have hl3 := Nat.le_trans (key_ws tArgs t2) hl2
  obtain ⟨t3, e3⟩ : ∃ x, keyK tArgs t2 = x := ⟨_, rfl⟩
  simp only [e3] at hc3 hl3 ⊢
  have HC3 := hide (show ∀ (W : World) (S : Nat → Prop) (c : Nat), DocAt W S c t2 → Calls Tryz.prog 33 #[.pointer (some ⟨c, 0, none⟩), .string ⟨#[97, 114, 103, 115]⟩] W (DocP S c W t3 (.tuple #[])) from hc3)
  clear hc3 e3
  have hc4 := fun (W : World) (S : Nat → Prop) (c : Nat) (h : DocAt W S c t3) => numbers5_any h (Nat.le_trans (fuel_le _) hl3)
  have hl4 : (regsC goB t3).2.ws.length ≤ 1099511627776 := Nat.le_trans (regsF_ws (go := goB) (fuelC t3) t3) hl3
  obtain ⟨⟨l1, t4⟩, e4⟩ : ∃ x, regsC goB t3 = x := ⟨_, rfl⟩
  simp only [e4] at hc4 hl4 ⊢
  have HC4 := hide hc4
  clear hc4 e4
  have hc5 := fun (W : World) (S : Nat → Prop) (c : Nat) (h : DocAt W S c t4) => dkey5_any h tRet
  have hl5 := Nat.le_trans (key_ws tRet t4) hl4
  obtain ⟨t5, e5⟩ : ∃ x, keyK tRet t4 = x := ⟨_, rfl⟩
  simp only [e5] at hc5 hl5 ⊢
  have HC5 := hide (show ∀ (W : World) (S : Nat → Prop) (c : Nat), DocAt W S c t4 → Calls Tryz.prog 33 #[.pointer (some ⟨c, 0, none⟩), .string ⟨#[114, 101, 116]⟩] W (DocP S c W t5 (.tuple #[])) from hc5)
  clear hc5 e5
  have hc6 := fun (W : World) (S : Nat → Prop) (c : Nat) (h : DocAt W S c t5) => dNum h 0 64
  have hl6 := Nat.le_trans (num_ws t5) hl5
  have hi2 := numC_in t5
  obtain ⟨⟨x2, t6⟩, e6⟩ : ∃ x, numC 0 64 t5 = x := ⟨_, rfl⟩
  simp only [e6] at hc6 hl6 hi2 ⊢
  have HC6 := hide hc6
  have HI2 := hide hi2
  clear hc6 e6
  have hc7 := fun (W : World) (S : Nat → Prop) (c : Nat) (h : DocAt W S c t6) => dkey5_any h tSaved
  have hl7 := Nat.le_trans (key_ws tSaved t6) hl6
  obtain ⟨t7, e7⟩ : ∃ x, keyK tSaved t6 = x := ⟨_, rfl⟩
  simp only [e7] at hc7 hl7 ⊢
  have HC7 := hide (show ∀ (W : World) (S : Nat → Prop) (c : Nat), DocAt W S c t6 → Calls Tryz.prog 33 #[.pointer (some ⟨c, 0, none⟩), .string ⟨#[115, 97, 118, 101, 100]⟩] W (DocP S c W t7 (.tuple #[])) from hc7)
  clear hc7 e7
  have hc8 := fun (W : World) (S : Nat → Prop) (c : Nat) (h : DocAt W S c t7) => numbers5_any h (Nat.le_trans (fuel_le _) hl7)
  have hl8 : (regsC goB t7).2.ws.length ≤ 1099511627776 := Nat.le_trans (regsF_ws (go := goB) (fuelC t7) t7) hl7
  obtain ⟨⟨l2, t8⟩, e8⟩ : ∃ x, regsC goB t7 = x := ⟨_, rfl⟩
  simp only [e8] at hc8 hl8 ⊢
  have HC8 := hide hc8
  clear hc8 e8
  have hc9 := fun (W : World) (S : Nat → Prop) (c : Nat) (h : DocAt W S c t8) => dErr h
  unfold errV at hc9
  obtain ⟨⟨el, ec, ee⟩, e9⟩ : ∃ x, errC t8 = x := ⟨_, rfl⟩
  simp only [e9] at hc9 ⊢
  have HC9 := hide hc9
  clear hc9 e9
  clear hl0 hl1 hl2 hl3 hl4 hl5 hl6 hl7 hl8 hi1 hi2
  clear hg hZ
  go_enter Tryz.func8, Tryz.ntmps8
  go_wp2_with (go_at_call 32; refine HOV.out.mono ?_; rintro e w1 ⟨c, rfl, hat1, hcz, hb1⟩; refine Hd.out ?_)
  refine hide ?_
  obtain ⟨M, hM⟩ : ∃ M, w1.heap.size = M := ⟨_, rfl⟩
  rw [HZ0.out] at hat1 hb1 hcz
  rw [HZ.out]
  have hcl := hat1.lt
  obtain ⟨S1, hS1⟩ : ∃ S1 : Nat → Prop, S1 = fun b => Z + 1 ≤ b ∧ b < c := ⟨_, rfl⟩
  rw [← hS1] at hat1
  obtain ⟨W2, hW2⟩ : ∃ W2, w1.alloc (.cells #[.int .i64 0, .slice none 0 0, .int .i64 0, .slice none 0 0] 25) = W2 := ⟨_, rfl⟩
  have HP2 := hide (show QAt W2 Z Z M c S1 (.slice none 0 0) (.slice none 0 0) ⟨0, [], 0, []⟩ s0 from ⟨by rw [← hW2]; exact (Below.heap_alloc w1 _ Z (by omega)).trans ((hb1.block Z (by omega)).trans HR0.out), by rw [← hW2, ← hM]; exact heap_alloc_new w1 _, by rw [← hW2]; exact hat1.below ((Below.refl _ _).alloc (Nat.le_refl _) _), OwnL.nil_ _ _ _ _, OwnL.nil_ _ _ _ _, by omega, by omega, by rw [← hW2, ← hM]; simp, Nat.le_refl _, fun b hb => by rw [hS1] at hb; omega⟩)
  have HBW2 := hide (show Below Z w W2 from HB0.out.trans (by rw [← hW2]; exact Below.trans ⟨hb1.os, hb1.tape, hb1.output, hb1.size, fun b hb => hb1.block b (by omega)⟩ ((Below.refl _ _).alloc (by omega) _)))
  clear hW0 hat1 hb1 HOV HR0 HB0 HZ0 hcz hcl hS1
  go_wp2_with fail
  clear hM hW2
  go_wp2_with (go_at_call 33; refine (HC1.out _ _ _ HP2.out.cur).mono ?_; rintro e W3 ⟨rfl, hat, hon⟩; refine Hd.out ?_)
  have HP3 := hide (HP2.out.call hon hat)
  have HBW3 := hide (HBW2.out.trans (hon.below (by have := HP2.out.o1; omega) (by have := HP2.out.o1; have := HP2.out.o2; have := HP2.out.o3; omega)))
  clear hat hon HC1 HP2 HBW2
  refine hide ?_
  go_wp2_with (go_at_call 34; refine (HC2.out _ _ _ HP3.out.cur).mono ?_; rintro e W4 ⟨rfl, hat, hon⟩; refine Hd.out ?_)
  have HP4 := hide (HP3.out.call hon hat)
  have HBW4 := hide (HBW3.out.trans (hon.below (by have := HP3.out.o1; omega) (by have := HP3.out.o1; have := HP3.out.o2; have := HP3.out.o3; omega)))
  clear hat hon HC2 HP3 HBW3
  obtain ⟨W5, hW5⟩ : ∃ W', W4.setCell ⟨M, 0, none⟩ (.int .i64 x1) = W' := ⟨_, rfl⟩
  have HP5 := hide (show QAt W5 Z Z M c S1 (.slice none 0 0) (.slice none 0 0) ⟨x1, [], 0, []⟩ t2 by rw [← hW5]; exact HP4.out.set (m' := ⟨x1, [], 0, []⟩) (j := 0) rfl HP4.out.a HP4.out.v)
  have HBW5 := hide (show Below Z w W5 by rw [← hW5]; exact HBW4.out.setCell (by show Z ≤ M; have := HP4.out.o1; have := HP4.out.o2; omega) _)
  have fz4 := HP4.out.fz 0
  have lt4 := HP4.out.o3
  have cl4 := HP4.out.cells.1
  clear HP4 HBW4
  refine hide ?_
  go_wp2_with fail
  clear hW5 fz4 lt4 cl4
  go_wp2_with (go_at_call 33; refine (HC3.out _ _ _ HP5.out.cur).mono ?_; rintro e W6 ⟨rfl, hat, hon⟩; refine Hd.out ?_)
  have HP6 := hide (HP5.out.call hon hat)
  have HBW6 := hide (HBW5.out.trans (hon.below (by have := HP5.out.o1; omega) (by have := HP5.out.o1; have := HP5.out.o2; have := HP5.out.o3; omega)))
  clear hat hon HC3 HP5 HBW5
  refine hide ?_
  go_wp2_with (go_at_call 35; refine (HC4.out _ _ _ HP6.out.cur).mono ?_; rintro e W7 ⟨A1, k1, rfl, hown, hat, hon⟩; refine Hd.out ?_)
  have HP7 := hide (HP6.out.call hon hat)
  have HBW7 := hide (HBW6.out.trans (hon.below (by have := HP6.out.o1; omega) (by have := HP6.out.o1; have := HP6.out.o2; have := HP6.out.o3; omega)))
  have hown1 := hide (show OwnL W7 (M + 1) 3 (fun _ => False) (.slice A1 l1.length k1) l1 from hown.base (by have := HP6.out.o3; omega))
  clear hown
  clear hat hon HC4 HP6 HBW6
  obtain ⟨W8, hW8⟩ : ∃ W', W7.setCell ⟨M, 1, none⟩ (.slice A1 l1.length k1) = W' := ⟨_, rfl⟩
  have HP8 := hide (show QAt W8 Z Z M c S1 (.slice A1 l1.length k1) (.slice none 0 0) ⟨x1, l1, 0, []⟩ t4 by rw [← hW8]; exact HP7.out.set (m' := ⟨x1, l1, 0, []⟩) (j := 1) rfl hown1.out HP7.out.v)
  have HBW8 := hide (show Below Z w W8 by rw [← hW8]; exact HBW7.out.setCell (by show Z ≤ M; have := HP7.out.o1; have := HP7.out.o2; omega) _)
  have fz7 := HP7.out.fz 1
  have lt7 := HP7.out.o3
  have cl7 := HP7.out.cells.2.1
  clear HP7 HBW7 hown1
  refine hide ?_
  go_wp2_with fail
  clear hW8 fz7 lt7 cl7
  go_wp2_with (go_at_call 33; refine (HC5.out _ _ _ HP8.out.cur).mono ?_; rintro e W9 ⟨rfl, hat, hon⟩; refine Hd.out ?_)
  have HP9 := hide (HP8.out.call hon hat)
  have HBW9 := hide (HBW8.out.trans (hon.below (by have := HP8.out.o1; omega) (by have := HP8.out.o1; have := HP8.out.o2; have := HP8.out.o3; omega)))
  clear hat hon HC5 HP8 HBW8
  refine hide ?_
  go_wp2_with (go_at_call 34; refine (HC6.out _ _ _ HP9.out.cur).mono ?_; rintro e W10 ⟨rfl, hat, hon⟩; refine Hd.out ?_)
  have HP10 := hide (HP9.out.call hon hat)
  have HBW10 := hide (HBW9.out.trans (hon.below (by have := HP9.out.o1; omega) (by have := HP9.out.o1; have := HP9.out.o2; have := HP9.out.o3; omega)))
  clear hat hon HC6 HP9 HBW9
  obtain ⟨W11, hW11⟩ : ∃ W', W10.setCell ⟨M, 2, none⟩ (.int .i64 x2) = W' := ⟨_, rfl⟩
  have HP11 := hide (show QAt W11 Z Z M c S1 (.slice A1 l1.length k1) (.slice none 0 0) ⟨x1, l1, x2, []⟩ t6 by rw [← hW11]; exact HP10.out.set (m' := ⟨x1, l1, x2, []⟩) (j := 2) rfl HP10.out.a HP10.out.v)
  have HBW11 := hide (show Below Z w W11 by rw [← hW11]; exact HBW10.out.setCell (by show Z ≤ M; have := HP10.out.o1; have := HP10.out.o2; omega) _)
  have fz10 := HP10.out.fz 2
  have lt10 := HP10.out.o3
  have cl10 := HP10.out.cells.2.2.1
  clear HP10 HBW10
  refine hide ?_
  go_wp2_with fail
  clear hW11 fz10 lt10 cl10
  go_wp2_with (go_at_call 33; refine (HC7.out _ _ _ HP11.out.cur).mono ?_; rintro e W12 ⟨rfl, hat, hon⟩; refine Hd.out ?_)
  have HP12 := hide (HP11.out.call hon hat)
  have HBW12 := hide (HBW11.out.trans (hon.below (by have := HP11.out.o1; omega) (by have := HP11.out.o1; have := HP11.out.o2; have := HP11.out.o3; omega)))
  clear hat hon HC7 HP11 HBW11
  refine hide ?_
  go_wp2_with (go_at_call 35; refine (HC8.out _ _ _ HP12.out.cur).mono ?_; rintro e W13 ⟨A2, k2, rfl, hown, hat, hon⟩; refine Hd.out ?_)
  have HP13 := hide (HP12.out.call hon hat)
  have HBW13 := hide (HBW12.out.trans (hon.below (by have := HP12.out.o1; omega) (by have := HP12.out.o1; have := HP12.out.o2; have := HP12.out.o3; omega)))
  have hown2 := hide (show OwnL W13 (M + 1) 3 (fun _ => False) (.slice A2 l2.length k2) l2 from hown.base (by have := HP12.out.o3; omega))
  clear hown
  clear hat hon HC8 HP12 HBW12
  obtain ⟨W14, hW14⟩ : ∃ W', W13.setCell ⟨M, 3, none⟩ (.slice A2 l2.length k2) = W' := ⟨_, rfl⟩
  have HP14 := hide (show QAt W14 Z Z M c S1 (.slice A1 l1.length k1) (.slice A2 l2.length k2) ⟨x1, l1, x2, l2⟩ t8 by rw [← hW14]; exact HP13.out.set (m' := ⟨x1, l1, x2, l2⟩) (j := 3) rfl HP13.out.a hown2.out)
  have HBW14 := hide (show Below Z w W14 by rw [← hW14]; exact HBW13.out.setCell (by show Z ≤ M; have := HP13.out.o1; have := HP13.out.o2; omega) _)
  have fz13 := HP13.out.fz 3
  have lt13 := HP13.out.o3
  have cl13 := HP13.out.cells.2.2.2
  clear HP13 HBW13 hown2
  refine hide ?_
  obtain ⟨q0, q1, q2, q3⟩ := HP14.out.cells
  obtain ⟨p0, p1, p2, p3⟩ := HP14.out.cellsZ
  have lt14 := HP14.out.o3
  have ltZ : Z < W14.heap.size := by have := HP14.out.o1; have := HP14.out.o2; omega
  have z0 := HP14.out.fzZ 0
  have z1 := HP14.out.fzZ 1
  have z2 := HP14.out.fzZ 2
  have z3 := HP14.out.fzZ 3
  have HS1 := hide (HP14.out.a.sl (S' := fun b => Z < b) (fun b _ h => by rcases h with h | h; exact h.elim; have := HP14.out.o1; have := HP14.out.o2; omega))
  have HS2 := hide (HP14.out.v.sl (S' := fun b => Z < b) (fun b _ h => by rcases h with h | h; exact h.elim; have := HP14.out.o1; have := HP14.out.o2; omega))
  have HROW := hide HP14.out.zro
  have HERR := hide (HC9.out _ _ _ HP14.out.cur)
  clear HC9 HP14 HI1
  by_cases he : ee = 0
  · subst he
    have HRI := hide (fun (W : World) (h1 : Sl W (fun b => Z < b) A1 l1.length k1 l1) (h2 : Sl W (fun b => Z < b) A2 l2.length k2 l2) => right5_any W _ _ ⟨x1, l1, x2, l2⟩ A1 A2 l1.length k1 l2.length k2 h1 h2)
    cases hr : rightM ⟨x1, l1, x2, l2⟩ with
    | true =>
      rw [hr] at HRI
      have hg : endM ⟨x1, l1, x2, l2⟩ 0 = (⟨x1, l1, x2, l2⟩, 0) := by unfold endM; rw [if_neg (by simp), if_pos hr]
      have HG := hide hg
      clear hr hg
      go_wp2_with (first | (go_at_call 36; refine HERR.out.mono ?_; rintro e _ ⟨rfl, ux, rfl⟩) | (go_at_call 15; refine (HRI.out _ (HS1.out.ext _) (HS2.out.ext _)).mono ?_; rintro e _ ⟨rfl, uy, rfl⟩))
      refine bodyPost_ret (v := .tuple #[.agg #[.int .i64 x1, .slice A1 l1.length k1, .int .i64 x2, .slice A2 l2.length k2], .int .i64 0]) (results_mach Tryz.results8 _ _ rfl ((ext_block _ uy Z (by rw [size_ext]; simp only [World.size_setCell]; omega)).trans ((ext_block _ ux Z (by simp only [World.size_setCell]; omega)).trans (row_set4 HROW.out (.int .i64 x1) (.slice A1 l1.length k1) (.int .i64 x2) (.slice A2 l2.length k2))))) rfl ?_
      rw [HG.out]
      refine ⟨A1, _, k1, A2, _, k2, rfl, ?_, ?_, ?_⟩
      · have h := (((HS1.out.setCell (a := ⟨Z, 0, none⟩) (by show ¬ Z < Z; omega) (.int .i64 x1)).setCell (a := ⟨Z, 1, none⟩) (by show ¬ Z < Z; omega) (.slice A1 l1.length k1)).setCell (a := ⟨Z, 2, none⟩) (by show ¬ Z < Z; omega) (.int .i64 x2)).setCell (a := ⟨Z, 3, none⟩) (by show ¬ Z < Z; omega) (.slice A2 l2.length k2)
        exact ((h.ext ux).ext uy).more fun b _ h => by show w.heap.size ≤ b; rw [HZ.out]; exact Nat.le_of_lt h
      · have h := (((HS2.out.setCell (a := ⟨Z, 0, none⟩) (by show ¬ Z < Z; omega) (.int .i64 x1)).setCell (a := ⟨Z, 1, none⟩) (by show ¬ Z < Z; omega) (.slice A1 l1.length k1)).setCell (a := ⟨Z, 2, none⟩) (by show ¬ Z < Z; omega) (.int .i64 x2)).setCell (a := ⟨Z, 3, none⟩) (by show ¬ Z < Z; omega) (.slice A2 l2.length k2)
        exact ((h.ext ux).ext uy).more fun b _ h => by show w.heap.size ≤ b; rw [HZ.out]; exact Nat.le_of_lt h
      · rw [HZ.out]; exact ((((((HBW14.out.setCell (p := ⟨Z, 0, none⟩) (Nat.le_refl _) _).setCell (p := ⟨Z, 1, none⟩) (Nat.le_refl _) _).setCell (p := ⟨Z, 2, none⟩) (Nat.le_refl _) _).setCell (p := ⟨Z, 3, none⟩) (Nat.le_refl _) _).ext (by simp only [World.size_setCell]; omega) ux).ext (by rw [size_ext]; simp only [World.size_setCell]; omega) uy)
    | false =>
      rw [hr] at HRI
      have hg : endM ⟨x1, l1, x2, l2⟩ 0 = (zeroM, 2) := by unfold endM; rw [if_neg (by simp), if_neg (by rw [hr]; decide)]
      have HG := hide hg
      clear hr hg
      go_wp2_with (first | (go_at_call 36; refine HERR.out.mono ?_; rintro e _ ⟨rfl, ux, rfl⟩) | (go_at_call 15; refine (HRI.out _ (HS1.out.ext _) (HS2.out.ext _)).mono ?_; rintro e _ ⟨rfl, uy, rfl⟩))
      refine bodyPost_ret (v := .tuple #[.agg #[.int .i64 0, .slice none 0 0, .int .i64 0, .slice none 0 0], .int .i64 2]) (results_mach Tryz.results8 _ _ rfl ((ext_block _ uy Z (by rw [size_ext]; simp only [World.size_setCell]; omega)).trans ((ext_block _ ux Z (by simp only [World.size_setCell]; omega)).trans (row_set4 HROW.out (.int .i64 0) (.slice none 0 0) (.int .i64 0) (.slice none 0 0))))) rfl ?_
      rw [HG.out]
      refine ⟨none, 0, 0, none, 0, 0, rfl, Sl.nil, Sl.nil, ?_⟩
      · rw [HZ.out]; exact ((((((HBW14.out.setCell (p := ⟨Z, 0, none⟩) (Nat.le_refl _) _).setCell (p := ⟨Z, 1, none⟩) (Nat.le_refl _) _).setCell (p := ⟨Z, 2, none⟩) (Nat.le_refl _) _).setCell (p := ⟨Z, 3, none⟩) (Nat.le_refl _) _).ext (by simp only [World.size_setCell]; omega) ux).ext (by rw [size_ext]; simp only [World.size_setCell]; omega) uy)
  · have heb : (ee == 0) = false := by simp [he]
    have HG := hide (show endM ⟨x1, l1, x2, l2⟩ ee = (zeroM, ee) by unfold endM; rw [if_pos he])
    clear he
    go_wp2_with (first | (go_at_call 36; refine HERR.out.mono ?_; rintro e _ ⟨rfl, ux, rfl⟩))
    refine bodyPost_ret (v := .tuple #[.agg #[.int .i64 0, .slice none 0 0, .int .i64 0, .slice none 0 0], .int .i64 ee]) (results_mach Tryz.results8 _ _ rfl ((ext_block _ ux Z (by simp only [World.size_setCell]; omega)).trans (row_set4 HROW.out (.int .i64 0) (.slice none 0 0) (.int .i64 0) (.slice none 0 0)))) rfl ?_
    rw [HG.out]
    refine ⟨none, 0, 0, none, 0, 0, rfl, Sl.nil, Sl.nil, ?_⟩
    · rw [HZ.out]; exact (((((HBW14.out.setCell (p := ⟨Z, 0, none⟩) (Nat.le_refl _) _).setCell (p := ⟨Z, 1, none⟩) (Nat.le_refl _) _).setCell (p := ⟨Z, 2, none⟩) (Nat.le_refl _) _).setCell (p := ⟨Z, 3, none⟩) (Nat.le_refl _) _).ext (by simp only [World.size_setCell]; omega) ux)
end Go.Proofs.YtcfimcghckjmeaaGreatDoor
