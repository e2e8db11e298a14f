/- law28: walks: the document's order; it reads an edge's facts. -/
import Derived.Test.YtppkanniefignaaGreatDoorD28d
import Derived.Test.YtppkanniefignaaGreatDoorC10
import Derived.Deep.DeepCutAuto
set_option linter.unusedSimpArgs false
set_option linter.unusedVariables false
namespace Go.Proofs.YtppkanniefignaaGreatDoor
open Go.RowKit Go.Maps
set_option maxRecDepth 100000 in
set_option maxHeartbeats 4000000 in
theorem dahead28_any (w : World) (f g : Fact) : Calls Tryz.prog 20 #[facV f, facV g] w (RetX (.bool (aheadF f g)) w) := by
  rw [ahead_eq]
  obtain ⟨va, ⟨sa, na⟩⟩ := f
  obtain ⟨vb, ⟨sb, nb⟩⟩ := g
  have hb := ((Below.refl w.heap.size w).alloc (Nat.le_refl _) (.cells #[.int .i64 va, .bool sa, .int .i64 na] 42)).alloc (by simp) (.cells #[.int .i64 vb, .bool sb, .int .i64 nb] 42)
  have HB := hide hb
  clear hb
  by_cases h : va = vb
  · subst h
    cases sa <;> cases sb
    all_goals
      go_enter Tryz.func20, Tryz.ntmps20
      go_wp2_with fail
      go_ret
      exact RetX.b (by unfold aheadD; simp) HB.out
  · have hn : (va != vb) = true := by simpa using h
    have HE := hide (show aheadD ⟨va, ⟨sa, na⟩⟩ ⟨vb, ⟨sb, nb⟩⟩ = decide (va < vb) from by unfold aheadD; simp [h])
    clear h
    go_enter Tryz.func20, Tryz.ntmps20
    go_wp2_with fail
    go_ret
    exact RetX.b HE.out.symm HB.out
theorem DocAt.peek_size {w : World} {S : Nat → Prop} {c : Nat} {s : Cur} (h : DocAt w S c s) : (peekC s).size ≤ 9223372036854775807 := by
  obtain ⟨A, n, k, _, _, _, _, hs⟩ := h.at_
  unfold peekC headC
  split
  · rename_i x hx
    split
    · split at hx
      · rcases hl : s.ws with _ | ⟨y, l⟩
        · rw [hl] at hx; cases hx
        · rw [hl] at hx
          injection hx with hx
          subst hx
          rw [hl] at hs
          obtain ⟨b, off, z, us, _, _, _, hz, hus, _⟩ := hs.at_ (k := 0) (by have := hs.len; simp at this; omega)
          simp at hz
          subst hz
          have h1 := (Word.open_ hus).2.2.1
          unfold maxLen at h1
          exact h1
      · cases hx
    · simp
  · simp
/-- What stands while the document reads facts: the cursor c, the facts so far. -/
structure DRt (w0 W : World) (c : Nat) (S : Nat → Prop) (v : Value) (l : List Fact) (s : Cur) : Prop where
  cur : DocAt W S c s
  only : Only c w0 W
  own : OwnL W w0.heap.size 42 (fun _ => False) v l
  o1 : c < w0.heap.size
  o3 : ∀ b, S b → b < w0.heap.size
/-- A fact as it is made, in a block of its own. -/
def FcAt (W : World) (B F : Nat) (v : Value) (f : Fact) : Prop := W.heap[F]? = some (.cells #[.int .i64 f.var, .bool f.loc.slot, .int .i64 f.loc.n] 42 (0, 0)) ∧ B ≤ F ∧ v.ownBlock ≠ some F
section
variable {w0 W W' : World} {B F c : Nat} {S : Nat → Prop} {v v' : Value} {l l' : List Fact} {s s' : Cur} {f f' : Fact}
theorem DRt.call (h : DRt w0 W c S v l s) (hon : Only c W W') (hat : DocAt W' S c s') : DRt w0 W' c S v l s' where
  cur := hat
  only := h.only.trans hon
  own := h.own.keep hon.size (fun _ hf => hf.elim) fun g hg => hon.block g (h.own.below_ g hg).2 (by have := (h.own.below_ g hg).1; have := h.o1; omega)
  o1 := h.o1
  o3 := h.o3
theorem DRt.ext (h : DRt w0 W c S v l s) (u : Ext) : DRt w0 (W.ext u) c S v l s := h.call ((Only.refl c W).ext u) (h.cur.ext u)
theorem DRt.alloc (h : DRt w0 W c S v l s) (o : Obj) : DRt w0 (W.alloc o) c S v l s := h.call ((Only.refl c W).alloc o) (h.cur.alloc o)
theorem DRt.set (h : DRt w0 W c S v l s) (hF : w0.heap.size ≤ F) (hv : v.ownBlock ≠ some F) (j : Nat) (x : Value) : DRt w0 (W.setCell ⟨F, j, none⟩ x) c S v l s where
  cur := h.cur.keep (by simp) (Below.heap_setCell W ⟨F, j, none⟩ x c (by show c ≠ F; have := h.o1; omega)) fun b hS _ => Below.heap_setCell W ⟨F, j, none⟩ x b (by show b ≠ F; have := h.o3 b hS; omega)
  only := ⟨h.only.os, h.only.tape, h.only.output, by have := h.only.size; simpa using this, fun b hb hc => (Below.heap_setCell W ⟨F, j, none⟩ x b (by show b ≠ F; omega)).trans (h.only.block b hb hc)⟩
  own := h.own.setCell (fun e => e) hv x
  o1 := h.o1
  o3 := h.o3
theorem DRt.grown {row : Option Nat} (h : DRt w0 W c S v l s) (hg : W.grownBy W' row) (hr : ∀ g, row = some g → w0.heap.size ≤ g) (ho : OwnL W' w0.heap.size 42 (fun _ => False) v' l') : DRt w0 W' c S v' l' s := by
  have hk : ∀ b, b < w0.heap.size → W'.heap[b]? = W.heap[b]? := fun b hb => hg.block b (by have := h.only.size; omega) (fun e => by have := hr b e.symm; omega)
  have hb0 : Below w0.heap.size W W' := (Below.refl _ _).grown hg h.only.size (fun r e => hr r e)
  exact ⟨h.cur.keep hg.size (hk c h.o1) (fun b hS _ => hk b (h.o3 b hS)), ⟨hb0.os.trans h.only.os, hb0.tape.trans h.only.tape, hb0.output.trans h.only.output, Nat.le_trans h.only.size hg.size, fun b hb hc => (hk b hb).trans (h.only.block b hb hc)⟩, ho, h.o1, h.o3⟩
theorem FcAt.lt (h : FcAt W B F v f) : F < W.heap.size := (Array.getElem?_eq_some_iff.1 h.1).1
theorem FcAt.call (h : FcAt W B F v f) (hon : Only c W W') (hc : c < B) : FcAt W' B F v f := ⟨(hon.block F h.lt (by have := h.2.1; omega)).trans h.1, h.2⟩
theorem FcAt.cells (h : FcAt W B F v f) : W.cell? ⟨F, 0, none⟩ = some (.int .i64 f.var) ∧ W.cell? ⟨F, 1, none⟩ = some (.bool f.loc.slot) ∧ W.cell? ⟨F, 2, none⟩ = some (.int .i64 f.loc.n) ∧ W.frozen? ⟨F, 0, none⟩ = false ∧ W.frozen? ⟨F, 1, none⟩ = false ∧ W.frozen? ⟨F, 2, none⟩ = false ∧ F < W.heap.size := by
  obtain ⟨a, b, d⟩ := cells3 h.1
  exact ⟨a, b, d, by simp [World.frozen?, h.1], by simp [World.frozen?, h.1], by simp [World.frozen?, h.1], h.lt⟩
theorem FcAt.ext (h : FcAt W B F v f) (u : Ext) : FcAt (W.ext u) B F v f := ⟨by rw [ext_block W u F h.lt]; exact h.1, h.2⟩
theorem FcAt.alloc (h : FcAt W B F v f) (o : Obj) : FcAt (W.alloc o) B F v f := ⟨by rw [Below.heap_alloc W o F h.lt]; exact h.1, h.2⟩
end
/-- Facts that the document has read, and the cursor behind them. -/
def FactsPd (S : Nat → Prop) (c : Nat) (r : List Fact × Cur) (w : World) (e : Ending) (w' : World) : Prop :=
  ∃ A n k, e = .returned (.slice A n k) ∧ OwnL w' w.heap.size 42 (fun _ => False) (.slice A n k) r.1 ∧ DocAt w' S c r.2 ∧ Only c w w'
set_option maxRecDepth 100000 in
set_option maxHeartbeats 16000000 in
theorem dfacts28_any (w : World) (S : Nat → Prop) (c : Nat) (s : Cur) (h : DocAt w S c s) (hl : leftC s ≤ 1099511627770) : Calls Tryz.prog 39 #[.pointer (some ⟨c, 0, none⟩)] w (FactsPd S c (factsC s) w) := by
  obtain ⟨i0, hi, hz, hz1, hz2⟩ := info_parts info_Fact28
  have HI0 := hide hi; have HZ := hide hz; have HZ1 := hide hz1; have HZ2 := hide hz2
  clear hi hz hz1 hz2
  have hlt := h.lt
  obtain ⟨S1, hS1⟩ : ∃ S1 : Nat → Prop, S1 = fun b => S b ∧ b < w.heap.size := ⟨_, rfl⟩
  have HS1 := hide hS1; have HNS := hide h.nS
  have hat0 : DocAt w S1 c s := h.moreS (fun b hb hS => by rw [hS1]; exact ⟨hS, hb⟩) (by rw [hS1]; exact fun e => h.nS e.1)
  have HT0 := hide (show DRt w w c S1 (.slice none 0 0) [] s from ⟨hat0, Only.refl c w, OwnL.nil_ _ _ _ _, hlt, fun b hb => by rw [hS1] at hb; exact hb.2⟩)
  obtain ⟨b0, hb0⟩ : ∃ b, endsC s = b := ⟨_, rfl⟩
  obtain ⟨X, hX⟩ : ∃ X, factsL (([], !b0), s) = X := ⟨_, rfl⟩
  have hfs : factsC s = (X.1.1, endC X.2) := by unfold factsC; simp only; rw [hb0, hX]
  rw [hfs]
  have HX := hide hX
  have HLL := hide hl
  have HEN := hide (show Calls Tryz.prog 89 #[.pointer (some ⟨c, 0, none⟩)] w (Ret (.bool b0) w) from hb0 ▸ dEnds h)
  clear h hat0 hS1 hfs hX hl hb0 hlt
  go_enter Tryz.func39, Tryz.ntmps39
  go_wp2_with (first | (go_at_call 89; (with_reducible refine HEN.out.mono ?_); rintro e w' ⟨rfl, rfl⟩))
  clear HEN
  go_loopw [3, 4] (fun v mo wr => ∃ (A : Option Addr) (n k : Nat) (l : List Fact) (s' : Cur) (b : Bool), v = .slice A n k ∧ mo = .bool b ∧ l.length = n ∧ DRt w wr c S1 (.slice A n k) l s' ∧ factsL ((l, b), s') = X ∧ n + leftC s' + (if b = true then 1 else 0) ≤ 1099511627771 ∧ (b = true → n ≤ 600)) (fun _ mo wr => leftM c wr + moreV mo)
  case atStart => exact ⟨none, 0, 0, [], s, !b0, rfl, rfl, rfl, HT0.out, HX.out, by have := HLL.out; split <;> omega, fun _ => by omega⟩
  case round =>
    obtain ⟨A, n, k, l, s', b, rfl, rfl, hn, ht, hx, hll, h600⟩ := hrel
    have HT := hide ht; have HXQ := hide hx; have HN := hide hn
    have HLX := hide hll
    have HLE := hide ht.cur.leftM_
    clear ht hx hn hll HT0
    cases b with
    | false =>
      have HE := hide (show X = ((l, false), s') from by rw [← HXQ.out]; exact factsL_stop rfl)
      have HED := hide (dEnd HT.out.cur)
      clear h600
      go_wp2_with (first | (go_at_call 90; (with_reducible refine HED.out.mono ?_); rintro e V6 ⟨rfl, hat, hon⟩; have HT9 := hide (HT.out.call hon hat); clear hat hon))
      go_ret
      rw [HE.out]
      exact ⟨A, n, k, rfl, HT9.out.own, HT9.out.cur.moreS (fun b _ h => by rw [HS1.out] at h; exact h.1) HNS.out, HT9.out.only⟩
    | true =>
      have hn600 : n ≤ 600 := h600 rfl
      have HLZ := hide (show n + leftC s' + 1 ≤ 1099511627771 from by have := HLX.out; simpa using this)
      clear HLX h600
      obtain ⟨s1, hs1⟩ : ∃ x, unlessC (decide (n < 600)) 3 s' = x := ⟨_, rfl⟩
      obtain ⟨vr, hvr⟩ : ∃ x, varW (peekC s1) = x := ⟨_, rfl⟩
      obtain ⟨s2, hs2⟩ : ∃ x, unlessC (vr != 0) 7 s1 = x := ⟨_, rfl⟩
      obtain ⟨s4, hs4⟩ : ∃ x, markC [tEq] (nameC s2).2 = x := ⟨_, rfl⟩
      obtain ⟨⟨sl, nn⟩, hlc⟩ : ∃ x, (placeW (peekC s4)).getD ⟨false, 0⟩ = x := ⟨_, rfl⟩
      obtain ⟨is, his⟩ : ∃ x, (placeW (peekC s4)).isSome = x := ⟨_, rfl⟩
      obtain ⟨ok, hok⟩ : ∃ x, (is && lastOk l ⟨vr, ⟨sl, nn⟩⟩) = x := ⟨_, rfl⟩
      obtain ⟨s5, hs5⟩ : ∃ x, unlessC ok 7 s4 = x := ⟨_, rfl⟩
      obtain ⟨s6, hs6⟩ : ∃ x, (nameC s5).2 = x := ⟨_, rfl⟩
      have hq : factC l s' = (⟨vr, ⟨sl, nn⟩⟩, s6) := by
        unfold factC
        simp only
        rw [HN.out, hs1, hvr, hs2, hs4, hlc, his, hok, hs5, hs6]
      obtain ⟨b2, hb2⟩ : ∃ b, isC (.mk tComma) s6 = b := ⟨_, rfl⟩
      have hgo : factG ((l, true), s') = some ((l ++ [⟨vr, ⟨sl, nn⟩⟩], b2), overC b2 s6) := by
        unfold factG
        rw [if_pos rfl]
        simp only
        rw [hq, hb2]
      have HGO := hide (show factsL ((l ++ [⟨vr, ⟨sl, nn⟩⟩], b2), overC b2 s6) = X from by rw [← HXQ.out, factsL_go hgo])
      have hdec := factG_dec _ _ hgo
      have HDEC := hide (show leftC (overC b2 s6) + (if b2 = true then 1 else 0) < leftC s' + 1 from by unfold factM at hdec; simpa using hdec)
      have HQI := hide (show InI vr ∧ InI nn from by have h := factC_in l s'; rw [hq] at h; exact h)
      have HNX := hide (show b2 = true → n + 1 ≤ 600 from fun hb => by
        rcases Nat.lt_or_ge n 600 with h | h
        · omega
        · exfalso
          have e0 : n = 600 := by omega
          have h1 : leftC s1 = 0 := by rw [← hs1, e0]; exact left_fail (by decide) s'
          have h2 := left_unless (x := 7) (by decide) (vr != 0) s1
          have h3 := left_name s2
          have h4 := left_mark [tEq] (nameC s2).2
          have h5 := left_unless (x := 7) (by decide) ok s4
          have h6 := left_name s5
          have h7 := left_is (hb2.trans hb)
          rw [hs2] at h2; rw [hs4] at h4; rw [hs5] at h5; rw [hs6] at h6
          omega)
      have HS1Q := hide hs1; have HVR := hide hvr; have HS2Q := hide hs2; have HS4Q := hide hs4; have HLC := hide hlc; have HIS := hide his; have HOK := hide hok; have HS5Q := hide hs5; have HS6Q := hide hs6; have HB2 := hide hb2
      clear hgo hdec hq hb2 hs1 hvr hs2 hs4 hlc his hok hs5 hs6
      go_upto_if 14 with (fail)
      go_cut [] from 12 to 16 (fun wc => DRt w wc c S1 (.slice A n k) l s1)
      case first =>
        by_cases hn2 : n = 600
        · have hnb : ((n : Int) == 600) = true := by simp; omega
          have HFL := hide (show Calls Tryz.prog 37 #[.pointer (some ⟨c, 0, none⟩), .int .i64 3] wr (DocP S1 c wr s1 (.tuple #[])) from by have h := dFail HT.out.cur 3; rw [← HS1Q.out, hn2]; exact h)
          clear hn2
          go_wp2_with (first | (go_at_call 37; (with_reducible refine HFL.out.mono ?_); rintro e V6 ⟨rfl, hat, hon⟩; have HT9 := hide (HT.out.call hon hat); clear hat hon))
          go_meet
          exact HT9.out
        · have hnb : ((n : Int) == 600) = false := by simp; omega
          have HT9 := hide (show DRt w wr c S1 (.slice A n k) l s1 from by have h := HT.out; rw [← HS1Q.out, decide_eq_true (by omega)]; exact h)
          clear hn2
          go_wp2_with fail
          go_meet
          exact HT9.out
      case rest =>
        have HT1 := hide hcut
        obtain ⟨Wa, hWa⟩ : ∃ W, W = wc := ⟨_, rfl⟩
        subst hWa
        clear hcut HT
        have HPK := hide (dPeek HT1.out.cur)
        have HVA := hide (show Calls Tryz.prog 91 #[.string (peekC s1)] Wa (Ret (.int .i64 vr) Wa) from HVR.out ▸ variable28_any (peekC s1) Wa HT1.out.cur.peek_size)
        obtain ⟨F, hF⟩ : ∃ F, Wa.heap.size = F := ⟨_, rfl⟩
        obtain ⟨Wb, hWb⟩ : ∃ W, Wa.alloc (.cells #[.int .i64 vr, .bool false, .int .i64 0] 42) = W := ⟨_, rfl⟩
        have HT2 := hide (show DRt w Wb c S1 (.slice A n k) l s1 from by rw [← hWb]; exact HT1.out.alloc _)
        have HF2 := hide (show FcAt Wb w.heap.size F (.slice A n k) ⟨vr, ⟨false, 0⟩⟩ from ⟨by rw [← hWb, ← hF]; exact heap_alloc_new Wa _, by rw [← hF]; exact HT1.out.only.size, by rw [← hF]; intro e; have := (HT1.out.own.below_ _ e).2; omega⟩)
        have HWB := hide hWb; have HFQ := hide hF
        clear hWb hF
        go_upto_if 23 with (first | (go_at_call 92; (with_reducible refine HPK.out.mono ?_); rintro e _ ⟨rfl, rfl⟩) | (go_at_call 91; (with_reducible refine HVA.out.mono ?_); rintro e _ ⟨rfl, rfl⟩))
        try rw [HWB.out]
        try rw [HFQ.out]
        clear HPK HVA HT1
        go_cut [] from 17 to 25 (fun wc => DRt w wc c S1 (.slice A n k) l s2 ∧ FcAt wc w.heap.size F (.slice A n k) ⟨vr, ⟨false, 0⟩⟩)
        case first =>
          by_cases hv0 : vr = 0
          · have hvb : (vr == 0) = true := by simp [hv0]
            have HFL := hide (show Calls Tryz.prog 37 #[.pointer (some ⟨c, 0, none⟩), .int .i64 7] Wb (DocP S1 c Wb s2 (.tuple #[])) from by have h := dFail HT2.out.cur 7; rw [← HS2Q.out, hv0]; exact h)
            clear hv0
            go_wp2_with (first | (go_at_call 37; (with_reducible refine HFL.out.mono ?_); rintro e V6 ⟨rfl, hat, hon⟩; have HT9 := hide (HT2.out.call hon hat); have HF9 := hide (HF2.out.call hon HT2.out.o1); clear hat hon))
            go_meet
            exact ⟨HT9.out, HF9.out⟩
          · have hvb : (vr == 0) = false := by simp [hv0]
            have HT9 := hide (show DRt w Wb c S1 (.slice A n k) l s2 from by have h := HT2.out; rw [← HS2Q.out, show unlessC (vr != 0) 7 s1 = s1 from by unfold unlessC; rw [if_pos (by simpa using hv0)]]; exact h)
            clear hv0
            go_wp2_with fail
            go_meet
            exact ⟨HT9.out, HF2.out⟩
        case rest =>
          obtain ⟨hcut, hcut2⟩ := hcut
          have HT3 := hide hcut
          have HF3 := hide hcut2
          obtain ⟨Wc, hWc⟩ : ∃ W, W = wc := ⟨_, rfl⟩
          subst hWc
          clear hcut hcut2 HT2 HF2 HWB
          have HNA := hide (dName HT3.out.cur)
          go_wp2_with (first | (go_at_call 93; (with_reducible refine HNA.out.mono ?_); rintro e V4 ⟨rfl, hat, hon⟩; have HT4 := hide (HT3.out.call hon hat); have HF4 := hide (HF3.out.call hon HT3.out.o1); clear hat hon; refine Hd.out ?_))
          clear HT3 HF3 HNA
          have HMK := hide (show Calls Tryz.prog 88 #[.pointer (some ⟨c, 0, none⟩), .slice (some ⟨V4.heap.size, 0, none⟩) 1 1] (V4.alloc (.cells #[.string ⟨#[61]⟩] 9)) (DocP S1 c (V4.alloc (.cells #[.string ⟨#[61]⟩] 9)) s4 (.tuple #[])) from by
            have h := dMark (HT4.out.alloc (.cells #[.string ⟨#[61]⟩] 9)).cur (ts := [tEq]) (Sl.lit (S := fun _ => False) (S' := fun b => c < b) (us := [.string ⟨#[61]⟩]) rfl ⟨[.string ⟨#[61]⟩], [], rfl, ⟨rfl, by unfold maxLen; decide⟩, rfl⟩ rfl (by decide) (fun _ h => h.elim) (by have := HT4.out.o1; have := HT4.out.only.size; omega)) (by show ¬ c < c; omega)
            rw [HS4Q.out] at h
            exact h)
          refine hide ?_
          go_wp2_with (first | (go_at_call 88; (with_reducible refine HMK.out.mono ?_); rintro e V5 ⟨rfl, hat, hon⟩; have HT5 := hide ((HT4.out.alloc (.cells #[.string ⟨#[61]⟩] 9)).call hon hat); have HF5 := hide ((HF4.out.alloc (.cells #[.string ⟨#[61]⟩] 9)).call hon HT4.out.o1); clear hat hon; refine Hd.out ?_))
          clear HT4 HF4 HMK
          have HPK := hide (dPeek HT5.out.cur)
          have HPL := hide (show Calls Tryz.prog 94 #[.string (peekC s4)] V5 (RetX (.tuple #[.agg #[.bool sl, .int .i64 nn], .bool is]) V5) from by have h := place28_any (peekC s4) V5 HT5.out.cur.peek_size; rw [HLC.out, HIS.out] at h; exact h)
          refine hide ?_
          go_wp2_with (first | (go_at_call 92; (with_reducible refine HPK.out.mono ?_); rintro e _ ⟨rfl, rfl⟩) | (go_at_call 94; (with_reducible refine HPL.out.mono ?_); rintro e V9 ⟨rfl, u9, hu9⟩; have HT6 := hide (show DRt w V9 c S1 (.slice A n k) l s4 from hu9 ▸ HT5.out.ext u9); have HF6 := hide (show FcAt V9 w.heap.size F (.slice A n k) ⟨vr, ⟨false, 0⟩⟩ from hu9 ▸ HF5.out.ext u9); clear hu9; refine Hd.out ?_))
          clear HT5 HF5 HPK HPL
          obtain ⟨m0, m1, m2, f0, f1, f2, ml⟩ := HF6.out.cells
          dsimp only at m0 m1 m2
          obtain ⟨We, hWe⟩ : ∃ W, ((V9.setCell ⟨F, 1, none⟩ (.bool sl)).setCell ⟨F, 2, none⟩ (.int .i64 nn)).alloc (.cells #[.bool sl, .int .i64 nn] 40) = W := ⟨_, rfl⟩
          have HT7 := hide (show DRt w We c S1 (.slice A n k) l s4 from by rw [← hWe]; exact ((HT6.out.set HF6.out.2.1 HF6.out.2.2 1 _).set HF6.out.2.1 HF6.out.2.2 2 _).alloc _)
          have HF7 := hide (show FcAt We w.heap.size F (.slice A n k) ⟨vr, ⟨sl, nn⟩⟩ from ⟨by rw [← hWe, Below.heap_alloc _ _ _ (by simpa using HF6.out.lt), row_setB (row_setB HF6.out.1 1 _) 2 _]; rfl, HF6.out.2⟩)
          have HWE := hide hWe
          clear hWe
          refine hide ?_
          go_upto_region 13 with (fail)
          try rw [HWE.out]
          clear HT6 HF6 HWE m0 m1 m2 f0 f1 f2 ml
          obtain ⟨m0, m1, m2, f0, f1, f2, ml⟩ := HF7.out.cells
          dsimp only at m0 m1 m2
          go_cut [56] from 39 to 56 (fun b wc => b = .bool (!ok) ∧ ∃ u : Ext, wc = We.ext u)
          case first =>
            cases is with
            | false =>
              have hok : ok = false := by rw [← HOK.out]; rfl
              refine wp_region_flow_ext [] [] (by kernel_rfl) rfl (by kernel_rfl) ?_
              repeat (refine flow_known (by kernel_rfl) (fun K hK => ?_); go_simp; (first | (refine hK _ ?_; clear hK K) | (refine ⟨undef, (by intros; rw [if_neg (by decide)]), hK _ ?_⟩; clear hK K) | (apply Exists.intro; refine ⟨fun _ => ?_, hK _ ?_⟩; (fail); clear hK K)))
              refine flow_done [] (by kernel_rfl) ?_
              intro uf
              simp only [List.nil_append, List.cons_append, endH_f, endH_t, endH_nil]
              go_simp
              go_wp2_with fail
              go_meet
              exact ⟨by rw [hok]; rfl, uf, rfl⟩
            | true =>
              by_cases hn0 : n = 0
              · have hl0 : l = [] := List.eq_nil_of_length_eq_zero (by rw [HN.out, hn0])
                have hok : ok = true := by rw [← HOK.out, hl0]; rfl
                have hz2 : decide (0 < n) = false := by simp; omega
                clear hl0 hn0
                refine wp_region_flow_ext [] [] (by kernel_rfl) rfl (by kernel_rfl) ?_
                repeat (refine flow_known (by kernel_rfl) (fun K hK => ?_); go_simp; (first | (refine hK _ ?_; clear hK K) | (refine ⟨undef, (by intros; rw [if_neg (by decide)]), hK _ ?_⟩; clear hK K) | (apply Exists.intro; refine ⟨fun _ => ?_, hK _ ?_⟩; (fail); clear hK K)))
                refine flow_done [] (by kernel_rfl) ?_
                intro uf
                simp only [List.nil_append, List.cons_append, endH_f, endH_t, endH_nil]
                go_simp
                go_wp2_with fail
                go_meet
                exact ⟨by rw [hok]; rfl, uf, rfl⟩
              · obtain ⟨m, hm⟩ : ∃ m, n - 1 = m := ⟨_, rfl⟩
                have hmn : m < n := by omega
                obtain ⟨bq, oq, x, hAq, hbq, hxq, hxi1, hxi2, d0, d1, d2⟩ := at_Fact (HT7.out.own.sl (S' := fun _ => True) fun _ _ _ => trivial) hmn
                subst hAq
                have hz2 : decide (0 < n) = true := by simp; omega
                have hm1 : (n : Int) - 1 = (m : Int) := by omega
                have hmi : (m : Int) < n := by omega
                have hmw : IntKind.i64.wrap (m : Int) = (m : Int) := IntWalk.i64_in _ (by omega)
                obtain ⟨bh, hbh⟩ : ∃ b, aheadF x ⟨vr, ⟨sl, nn⟩⟩ = b := ⟨_, rfl⟩
                have hok : ok = bh := by
                  rw [← HOK.out, ← hbh]
                  unfold lastOk
                  rw [List.getLast?_eq_getElem?, HN.out, hm, hxq]
                  rfl
                have HAH := hide (fun (W : World) => show Calls Tryz.prog 20 #[.agg #[.int .i64 x.var, .bool x.loc.slot, .int .i64 x.loc.n], .agg #[.int .i64 vr, .bool sl, .int .i64 nn]] W (RetX (.bool bh) W) from hbh ▸ dahead28_any W x ⟨vr, ⟨sl, nn⟩⟩)
                clear hxq hm hbh hxi1 hxi2
                refine wp_region_flow_ext [] [] (by kernel_rfl) rfl (by kernel_rfl) ?_
                repeat (refine flow_known (by kernel_rfl) (fun K hK => ?_); go_simp; (first | (refine hK _ ?_; clear hK K) | (refine ⟨undef, (by intros; rw [if_neg (by decide)]), hK _ ?_⟩; clear hK K) | (apply Exists.intro; refine ⟨fun _ => ?_, hK _ ?_⟩; ((go_at_call 20; with_reducible exact HAH.out _)); clear hK K)))
                refine flow_done [] (by kernel_rfl) ?_
                intro uf
                simp only [List.nil_append, List.cons_append, endH_f, endH_t, endH_nil]
                go_simp
                go_wp2_with fail
                go_meet
                exact ⟨by rw [hok], uf, rfl⟩
          case rest =>
            obtain ⟨rfl, u9, hu9⟩ := hcut
            have HT8 := hide (show DRt w wc c S1 (.slice A n k) l s4 from hu9 ▸ HT7.out.ext u9)
            have HF8 := hide (show FcAt wc w.heap.size F (.slice A n k) ⟨vr, ⟨sl, nn⟩⟩ from hu9 ▸ HF7.out.ext u9)
            obtain ⟨Wf, hWf⟩ : ∃ W, W = wc := ⟨_, rfl⟩
            subst hWf
            clear hu9 HT7 HF7 m0 m1 m2 f0 f1 f2 ml
            go_upto_if 56 with (fail)
            go_cut [] from 39 to 58 (fun wc => DRt w wc c S1 (.slice A n k) l s5 ∧ FcAt wc w.heap.size F (.slice A n k) ⟨vr, ⟨sl, nn⟩⟩)
            case first =>
              cases ok with
              | false =>
                have HFL := hide (show Calls Tryz.prog 37 #[.pointer (some ⟨c, 0, none⟩), .int .i64 7] Wf (DocP S1 c Wf s5 (.tuple #[])) from by have h := dFail HT8.out.cur 7; rw [← HS5Q.out]; exact h)
                go_wp2_with (first | (go_at_call 37; (with_reducible refine HFL.out.mono ?_); rintro e V6 ⟨rfl, hat, hon⟩; have HT9 := hide (HT8.out.call hon hat); have HF9 := hide (HF8.out.call hon HT8.out.o1); clear hat hon))
                go_meet
                exact ⟨HT9.out, HF9.out⟩
              | true =>
                have HT9 := hide (show DRt w Wf c S1 (.slice A n k) l s5 from by have h := HT8.out; rw [← HS5Q.out]; exact h)
                go_wp2_with fail
                go_meet
                exact ⟨HT9.out, HF8.out⟩
            case rest =>
              obtain ⟨hcut, hcut2⟩ := hcut
              have HT9 := hide hcut
              have HF9 := hide hcut2
              obtain ⟨Wg, hWg⟩ : ∃ W, W = wc := ⟨_, rfl⟩
              subst hWg
              clear hcut hcut2 HT8 HF8
              have HNA := hide (dName HT9.out.cur)
              go_wp2_with (first | (go_at_call 93; (with_reducible refine HNA.out.mono ?_); rintro e V4 ⟨rfl, hat, hon⟩; have HT10 := hide (show DRt w V4 c S1 (.slice A n k) l s6 from HS6Q.out ▸ HT9.out.call hon hat); have HF10 := hide (HF9.out.call hon HT9.out.o1); clear hat hon; refine Hd.out ?_))
              clear HT9 HF9 HNA
              obtain ⟨m0, m1, m2, f0, f1, f2, ml⟩ := HF10.out.cells
              dsimp only at m0 m1 m2
              refine hide ?_
              go_wp2_with (first
                | (at_builtin; refine wpList_push (α := Fact) V4 [.int .i64 vr, .bool sl, .int .i64 nn] 42 rfl (.tmp 61) (.tmp 63) 37 rfl w.heap.size 42 i0 _ 24 Tryz.underlying37 HI0.out HZ.out HZ1.out HZ2.out rfl (by decide) (fun _ => False) (fun _ => False) (.slice A n k) l ⟨vr, ⟨sl, nn⟩⟩ rfl HT10.out.own V4.heap.size rfl rfl (Fact.mk_ HQI.out.1 HQI.out.2) (fun _ h => h) (fun _ _ h => h) (fun _ h => h.elim) (by have := HN.out; omega) (by have := HN.out; omega) HT10.out.only.size ?_; intro v' W2 ho1 hgr h5; have HT11 := hide ((HT10.out.alloc (.cells #[.int .i64 vr, .bool sl, .int .i64 nn] 42)).grown hgr (fun g e => (HT10.out.own.below_ g e).1) ho1); have HIQ := hide (show Calls Tryz.prog 95 #[.pointer (some ⟨c, 0, none⟩), .string ⟨#[44]⟩] W2 (DocP S1 c W2 (overC b2 s6) (.bool b2)) from (by have h := dIs HT11.out.cur tComma; rw [HB2.out] at h; exact h)); clear ho1 hgr h5)
                | (go_at_call 95; (with_reducible refine HIQ.out.mono ?_); rintro e V7 ⟨rfl, hat, hon⟩; have HT12 := hide (HT11.out.call hon hat); clear hat hon))
              obtain ⟨A', k', rfl⟩ := HT12.out.own.form
              have hl1 : (l ++ [(⟨vr, ⟨sl, nn⟩⟩ : Fact)]).length = n + 1 := by rw [List.length_append, HN.out]; rfl
              rw [hl1] at HT12 ⊢
              have HL12 := hide HT12.out.cur.leftM_
              clear m0 m1 m2 f0 f1 f2 ml
              go_roundw
              case rel => exact ⟨A', n + 1, k', l ++ [(⟨vr, ⟨sl, nn⟩⟩ : Fact)], overC b2 s6, b2, rfl, rfl, hl1, HT12.out, HGO.out, by have h1 := HDEC.out; have h2 := HLZ.out; revert h1; cases b2 <;> simp <;> omega, HNX.out⟩
              case measure =>
                rw [HL12.out, HLE.out]
                have := HDEC.out
                cases b2
                · show leftC _ + 0 < leftC s' + 1; simpa using this
                · show leftC _ + 1 < leftC s' + 1; simpa using this
end Go.Proofs.YtppkanniefignaaGreatDoor
