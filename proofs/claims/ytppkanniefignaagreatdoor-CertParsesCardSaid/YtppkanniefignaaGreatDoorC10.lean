/- law28: walks: an edge's facts are read. -/
import Derived.Test.YtppkanniefignaaGreatDoorC9
set_option linter.unusedSimpArgs false
set_option linter.unusedVariables false
namespace Go.Proofs.YtppkanniefignaaGreatDoor
open Go.RowKit Go.Maps

/-- What stands while facts are read: the reader in block R, the cursor c, the names. -/
structure RAt (w0 W : World) (R c nb : Nat) (S : Nat → Prop) (s : Cur) : Prop where
  rdr : W.heap[R]? = some (.cells #[.pointer (some ⟨c, 0, none⟩), .map (some nb)] 62 (0, 0))
  cur : CurAt W S c s
  only : Only c w0 W
  nm : Names W nb
  o1 : c < R
  o3 : ∀ b, S b → b < R
  o4 : w0.heap.size ≤ R
  o5 : nb < R
  o6 : nb ≠ c
section
variable {w0 W W' : World} {R c nb : Nat} {S : Nat → Prop} {s s' : Cur}
theorem RAt.rl (h : RAt w0 W R c nb S s) : R < W.heap.size := (Array.getElem?_eq_some_iff.1 h.rdr).1
theorem RAt.call (h : RAt w0 W R c nb S s) (hon : Only c W W') (hat : CurAt W' S c s') : RAt w0 W' R c nb S s' :=
  ⟨(hon.block R h.rl (by have := h.o1; omega)).trans h.rdr, hat, h.only.trans hon, h.nm.keep (hon.block nb (by have := h.o5; have := h.rl; omega) h.o6), h.o1, h.o3, h.o4, h.o5, h.o6⟩
theorem RAt.alloc (h : RAt w0 W R c nb S s) (o : Obj) : RAt w0 (W.alloc o) R c nb S s := h.call ((Only.refl c W).alloc o) (h.cur.alloc o)
theorem RAt.grown {row : Option Nat} (h : RAt w0 W R c nb S s) (hg : W.grownBy W' row) (hr : ∀ g, row = some g → R < g) : RAt w0 W' R c nb S s := by
  have hk : ∀ b, b < W.heap.size → b ≤ R → W'.heap[b]? = W.heap[b]? := fun b hb hm => hg.block b hb (fun e => by have := hr b e.symm; omega)
  have o1 := h.o1; have o4 := h.o4; have o5 := h.o5; have rl := h.rl
  have hb0 : Below (R + 1) W W' := (Below.refl _ _).grown hg (by omega) (fun r e => hr r e)
  exact ⟨(hk R rl (Nat.le_refl _)).trans h.rdr, h.cur.keep hg.size (hk c (by omega) (by omega)) (fun b hS hb => hk b hb (by have := h.o3 b hS; omega)), ⟨hb0.os.trans h.only.os, hb0.tape.trans h.only.tape, hb0.output.trans h.only.output, Nat.le_trans h.only.size hg.size, fun b hb hc => (hk b (by have := h.only.size; omega) (by omega)).trans (h.only.block b hb hc)⟩, h.nm.keep (hk nb (by omega) (by omega)), o1, h.o3, o4, o5, h.o6⟩
end
theorem info_Fact28 : (Tryz.prog.info? 42).map (fun i => (i.zero, i.size, i.bytes)) = some (some (.agg #[.int .i64 0, .bool false, .int .i64 0]), 3, 24) := by kernel_rfl
theorem factC_in (l : List Fact) (s : Cur) : InI (factC l s).1.var ∧ InI (factC l s).1.loc.n := by
  unfold factC
  simp only
  refine ⟨by rw [← nmVar_w]; exact (nm_in _).1, ?_⟩
  rw [(nmLoc_w _).1]
  exact (nm_in _).2
/-- The facts that the call has read, and the cursor behind them. -/
def FactsP (S : Nat → Prop) (c : Nat) (r : List Fact × Cur) (w : World) (e : Ending) (w' : World) : Prop :=
  ∃ A n k, e = .returned (.slice A n k) ∧ OwnL w' w.heap.size 42 (fun _ => False) (.slice A n k) r.1 ∧ CurAt w' S c r.2 ∧ Only c w w'
def moreV (v : Value) : Nat := match v with
  | .bool true => 1
  | _ => 0
set_option maxRecDepth 100000 in
set_option maxHeartbeats 16000000 in
theorem facts28_any (w : World) (S : Nat → Prop) (c nb : Nat) (s : Cur) (h : CurAt w S c s) (hnm : Names w nb) (hnc : nb ≠ c) (hl : leftC s ≤ 1099511627770) : Calls Tryz.prog 33 #[rdV c nb] w (FactsP S c (factsC s) w) := by
  obtain ⟨i0, hi, hz, hz1, hz2⟩ := info_parts info_Fact28
  have HI0 := hide hi; have HZ := hide hz; have HZ1 := hide hz1; have HZ2 := hide hz2
  clear hi hz hz1 hz2
  have hlt := h.lt
  have hnl := hnm.lt
  obtain ⟨R, hR⟩ : ∃ R, w.heap.size = R := ⟨_, rfl⟩
  obtain ⟨S1, hS1⟩ : ∃ S1 : Nat → Prop, S1 = fun b => S b ∧ b < R := ⟨_, rfl⟩
  have HS1 := hide hS1; have HNS := hide h.nS
  have hat0 : CurAt w S1 c s := h.moreS (fun b hb hS => by rw [hS1]; exact ⟨hS, by omega⟩) (by rw [hS1]; exact fun e => h.nS e.1)
  obtain ⟨W1, hW1⟩ : ∃ W1, w.alloc (.cells #[.pointer (some ⟨c, 0, none⟩), .map (some nb)] 62) = W1 := ⟨_, rfl⟩
  have HT1 := hide (show RAt w W1 R c nb S1 s from by
    refine ⟨?_, ?_, ?_, ?_, by omega, fun b hb => by rw [hS1] at hb; exact hb.2, by omega, by omega, hnc⟩
    · rw [← hW1, ← hR]; exact heap_alloc_new w _
    · rw [← hW1]; exact hat0.alloc _
    · rw [← hW1]; exact (Only.refl c w).alloc _
    · rw [← hW1]; exact hnm.alloc _)
  obtain ⟨b0, hb0⟩ : ∃ b, endsC s = b := ⟨_, rfl⟩
  obtain ⟨X, hX⟩ : ∃ X, factsL (([], !b0), s) = X := ⟨_, rfl⟩
  have hfs : factsC s = (X.1.1, endC X.2) := by unfold factsC; simp only; rw [hb0, hX]
  rw [hfs]
  have HX := hide hX
  have HLL := hide hl
  have HEN := hide (show Calls Tryz.prog 77 #[.pointer (some ⟨c, 0, none⟩)] W1 (Ret (.bool b0) W1) from hb0 ▸ cEnds HT1.out.cur)
  have r0 : W1.cell? ⟨R, 0, none⟩ = some (.pointer (some ⟨c, 0, none⟩)) := cell_of_row W1 R _ _ _ (0, 0) HT1.out.rdr
  have rl := HT1.out.rl
  have HRQ := hide hR
  clear h hat0 hS1 hfs hX hl hb0 hlt hnl
  go_enter Tryz.func33, Tryz.ntmps33
  go_wp2_with (first | (go_at_call 77; (with_reducible refine HEN.out.mono ?_); rintro e w' ⟨rfl, rfl⟩))
  try rw [hR]
  clear hW1 r0 rl HEN
  go_loopw [2, 3] (fun v mo wr => ∃ (A : Option Addr) (n k : Nat) (l : List Fact) (s' : Cur) (b : Bool), v = .slice A n k ∧ mo = .bool b ∧ l.length = n ∧ OwnL wr (R + 1) 42 (fun _ => False) (.slice A n k) l ∧ RAt w wr R c nb S1 s' ∧ factsL ((l, b), s') = X ∧ n + leftC s' + (if b = true then 1 else 0) ≤ 1099511627771) (fun _ mo wr => leftM c wr + moreV mo)
  case atStart => exact ⟨none, 0, 0, [], s, !b0, rfl, rfl, rfl, OwnL.nil_ _ _ _ _, HT1.out, HX.out, by have := HLL.out; split <;> omega⟩
  case round =>
    obtain ⟨A, n, k, l, s', b, rfl, rfl, hn, ho, ht, hx, hll⟩ := hrel
    have HO := hide ho; have HT := hide ht; have HXQ := hide hx; have HN := hide hn
    have HLX := hide hll
    have HLQ := hide (show n + leftC s' ≤ 1099511627771 from by revert hll; split <;> intro hll <;> omega)
    have HLE := hide ht.cur.leftM_
    have r0 : wr.cell? ⟨R, 0, none⟩ = some (.pointer (some ⟨c, 0, none⟩)) := cell_of_row wr R _ _ _ (0, 0) ht.rdr
    have r1 : wr.cell? ⟨R, 1, none⟩ = some (.map (some nb)) := cell_of_row wr R _ _ _ (0, 0) ht.rdr
    have rl := ht.rl
    clear ho ht hx hn hll
    cases b with
    | false =>
      have HE := hide (show X = ((l, false), s') from by rw [← HXQ.out]; exact factsL_stop rfl)
      have HED := hide (cEnd HT.out.cur)
      go_wp2_with (first | (go_at_call 78; (with_reducible refine HED.out.mono ?_); rintro e V6 ⟨rfl, hat, hon⟩; have HT9 := hide (HT.out.call hon hat); have HO9 := hide (HO.out.keep hon.size (fun _ hf => hf.elim) fun g hg => hon.block g (HO.out.below_ g hg).2 (by have := (HO.out.below_ g hg).1; have := HT.out.o1; omega)); clear hat hon))
      go_ret
      rw [HE.out]
      exact ⟨A, n, k, rfl, HO9.out.lower28 (by have := HRQ.out; omega), HT9.out.cur.moreS (fun b _ h => by rw [HS1.out] at h; exact h.1) HNS.out, HT9.out.only⟩
    | true =>
      have HLZ := hide (show n + leftC s' + 1 ≤ 1099511627771 from by have := HLX.out; simpa using this)
      clear HLX
      obtain ⟨q, hq⟩ : ∃ q, factC l s' = q := ⟨_, rfl⟩
      obtain ⟨b2, hb2⟩ : ∃ b, isC (.mk tComma) q.2 = b := ⟨_, rfl⟩
      have hgo : factG ((l, true), s') = some ((l ++ [q.1], b2), overC b2 q.2) := by
        unfold factG
        rw [if_pos rfl]
        simp only
        rw [hq, hb2]
      have HGO := hide (show factsL ((l ++ [q.1], b2), overC b2 q.2) = X from by rw [← HXQ.out, factsL_go hgo])
      have hdec := factG_dec _ _ hgo
      have HDEC := hide (show leftC (overC b2 q.2) + (if b2 = true then 1 else 0) < leftC s' + 1 from by unfold factM at hdec; simpa using hdec)
      have HQI := hide (show InI q.1.var ∧ InI q.1.loc.n from hq ▸ factC_in l s')
      have HFC := hide (show Calls Tryz.prog 80 #[rdV c nb, .slice A n k] wr (FactP S1 c q wr) from hq ▸ fact28_any wr S1 c nb s' HT.out.cur HT.out.nm HT.out.o6 (fun b => R < b) A n k l (HO.out.sl fun b _ h => by rcases h with h | h; exact h.elim; show R < b; omega) (by show ¬ R < c; have := HT.out.o1; omega) (by have := HLQ.out; omega))
      have HB2 := hide hb2
      clear hgo hdec hq hb2
      go_wp2_with (first
        | (go_at_call 80; (with_reducible refine HFC.out.mono ?_); rintro e V6 ⟨rfl, hat, hon⟩; have HT9 := hide (HT.out.call hon hat); have HO9 := hide (HO.out.keep hon.size (fun _ hf => hf.elim) fun g hg => hon.block g (HO.out.below_ g hg).2 (by have := (HO.out.below_ g hg).1; have := HT.out.o1; omega)); clear hat hon r0 r1 rl)
        | (at_builtin; refine wpList_push (α := Fact) V6 [.int .i64 q.1.var, .bool q.1.loc.slot, .int .i64 q.1.loc.n] 42 rfl (.tmp 12) (.tmp 16) 37 rfl (R + 1) 42 i0 _ 24 Tryz.underlying37 HI0.out HZ.out HZ1.out HZ2.out rfl (by decide) (fun _ => False) (fun _ => False) (.slice A n k) l q.1 rfl HO9.out V6.heap.size rfl rfl (Fact.mk_ HQI.out.1 HQI.out.2) (fun _ h => h) (fun _ _ h => h) (fun _ h => h.elim) (by have := HN.out; have := HLQ.out; omega) (by have := HN.out; have := HLQ.out; omega) (by have := HT9.out.rl; omega) ?_; intro v' W2 ho1 hgr h5; have HO1 := hide ho1; have HT10 := hide ((HT9.out.alloc (.cells #[.int .i64 q.1.var, .bool q.1.loc.slot, .int .i64 q.1.loc.n] 42)).grown hgr (fun g e => by have := (HO9.out.below_ g e).1; omega)); have r0 : W2.cell? ⟨R, 0, none⟩ = some (.pointer (some ⟨c, 0, none⟩)) := (cell_of_row W2 R _ _ _ (0, 0) HT10.out.rdr); have rl := HT10.out.rl; have HIS := hide (show Calls Tryz.prog 79 #[.pointer (some ⟨c, 0, none⟩), .string ⟨#[44]⟩] W2 (CurP S1 c W2 (overC b2 q.2) (.bool b2)) from (by have h := cIsM HT10.out.cur tComma; rw [HB2.out] at h; exact h)); clear ho1 hgr h5)
        | (go_at_call 79; (with_reducible refine HIS.out.mono ?_); rintro e V7 ⟨rfl, hat, hon⟩; have HT11 := hide (HT10.out.call hon hat); have HO11 := hide (HO1.out.keep hon.size (fun _ hf => hf.elim) fun g hg => hon.block g (HO1.out.below_ g hg).2 (by have := (HO1.out.below_ g hg).1; have := HT10.out.o1; omega)); clear hat hon r0 rl))
      obtain ⟨A', k', rfl⟩ := HO11.out.form
      have hl1 : (l ++ [q.1]).length = n + 1 := by rw [List.length_append, HN.out]; rfl
      rw [hl1] at HO11 ⊢
      have HL11 := hide HT11.out.cur.leftM_
      go_roundw
      case rel => exact ⟨A', n + 1, k', l ++ [q.1], overC b2 q.2, b2, rfl, rfl, hl1, HO11.out, HT11.out, HGO.out, by have h1 := HDEC.out; have h2 := HLZ.out; revert h1; cases b2 <;> simp <;> omega⟩
      case measure =>
        rw [HL11.out, HLE.out]
        have := HDEC.out
        cases b2
        · show leftC _ + 0 < leftC s' + 1; simpa using this
        · show leftC _ + 1 < leftC s' + 1; simpa using this
end Go.Proofs.YtppkanniefignaaGreatDoor
