/- Walks: law 26: MovesRows. Printed by gen_mw7.py. -/
import Derived.Test.YtoghikagooegbaaMW6
set_option linter.unusedSimpArgs false
set_option linter.unusedVariables false
namespace Go.Proofs.Ytoghikagooegbaa
open Go.RowKit Go.Maps

set_option maxRecDepth 100000 in
set_option maxHeartbeats 32000000 in
theorem movesRows_any (w : World) (S : Nat → Prop) (A : Option Addr) (n c : Nat) (xs : List Move) (h : Sl w S A n c xs) (t : Int) (ht : InI t) :
    Calls Try.prog 3 #[.slice A n c, .int .i64 t] w (RetX (.bool true) w) := by
  have HAW := hide awake26_any
  by_cases h60 : 60 < n
  · clear h
    have hn60 : (60 : Int) < n := by omega
    go_enter Try.func3, Try.ntmps3
    go_wp2_with (go_at_call 7; (with_reducible refine (HAW.out _).mono ?_); rintro e _ ⟨rfl, u1, rfl⟩)
    go_ret
    exact RetX.b rfl (Below.of_ext w u1 (Nat.le_refl _))
  have hm : n ≤ 1048576 := by omega
  have hn60 : decide ((60 : Int) < n) = false := by simp; omega
  obtain ⟨RI, hRI⟩ : ∃ R, rowIns xs t = R := ⟨_, rfl⟩
  obtain ⟨RE, hRE⟩ : ∃ R, rowErr xs t = R := ⟨_, rfl⟩
  obtain ⟨rr, hrr⟩ : ∃ r, rightM' xs (spL t) = r := ⟨_, rfl⟩
  obtain ⟨rn, hrn⟩ : ∃ r, ringsM xs = r := ⟨_, rfl⟩
  obtain ⟨BS, hBS⟩ : ∃ b, busyM xs = b := ⟨_, rfl⟩
  obtain ⟨nr, hnr⟩ : ∃ nr, RI.length = nr := ⟨_, rfl⟩
  obtain ⟨nb, hnb⟩ : ∃ nb, BS.length = nb := ⟨_, rfl⟩
  have hnr2 : nr ≤ 121 := by
    rw [← hnr, ← hRI]; unfold rowIns
    split
    · have h1 := rowOf_le (spL t) (busyM xs); have h2 := busy_le xs; rw [h.len] at h2; rw [List.length_map]; omega
    · simp
  have hnb2 : nb ≤ 60 := by have h2 := busy_le xs; rw [h.len, hBS, hnb] at h2; omega
  have HARG := hide (show ∀ x ∈ RI, x.args = [] by
    rw [← hRI]; unfold rowIns
    split
    · intro x hx; obtain ⟨m, _, rfl⟩ := List.mem_map.1 hx; exact insM_args m
    · intro x hx; cases hx)
  have HROW := hide (fun (W : World) (S' : Nat → Prop) (A' : Option Addr) (n' c' : Nat) (hs : Sl W S' A' n' c' xs) (hn' : n' ≤ 1048576) => show Calls Try.prog 8 #[.slice A' n' c', .int .i64 t] W (fun en w' => ∃ A n c, en = .returned (.tuple #[.slice A n c, .int .i64 RE]) ∧ OwnLN w' W.heap.size 54 (fun _ => False) (.slice A n c) RI ∧ ∃ u, w' = W.ext u) from (hRI ▸ hRE ▸ rowInsN_any W S' A' n' c' xs hs hn' t ht).mono fun en w' h => retN h)
  have HROWD := hide (fun (W : World) (S' : Nat → Prop) (A' : Option Addr) (n' c' : Nat) (hs : Sl W S' A' n' c' xs) (hn' : n' ≤ 1048576) => show Calls Try.prog 9 #[.slice A' n' c', .int .i64 t] W (RetRow26 RI RE W) from hRI ▸ hRE ▸ rowInsD_any W S' A' n' c' xs hs hn' t ht)
  have HBU := hide (fun (W : World) (S' : Nat → Prop) (A' : Option Addr) (n' c' : Nat) (hs : Sl W S' A' n' c' xs) (hn' : n' ≤ 1048576) => hBS ▸ busy_any W S' A' n' c' xs hs hn')
  have HBUD := hide (fun (W : World) (S' : Nat → Prop) (A' : Option Addr) (n' c' : Nat) (hs : Sl W S' A' n' c' xs) (hn' : n' ≤ 1048576) => hBS ▸ busyD_any W S' A' n' c' xs hs hn')
  have HRT := hide (fun (W : World) (S' : Nat → Prop) (A' : Option Addr) (n' c' : Nat) (hs : Sl W S' A' n' c' xs) (hn' : n' ≤ 1048576) => show Calls Try.prog 12 #[.slice A' n' c', .int .i64 t] W (RetX (.bool rr) W) from hrr ▸ mright_any W S' A' n' c' xs hs hn' t ht)
  have HRTD := hide (fun (W : World) (S' : Nat → Prop) (A' : Option Addr) (n' c' : Nat) (hs : Sl W S' A' n' c' xs) => show Calls Try.prog 13 #[.slice A' n' c', .int .i64 t] W (RetX (.bool rr) W) by
    have h1 := rightD_any W S' A' n' c' xs hs t
    rw [rightD_eq, hrr] at h1
    exact h1)
  have HRG := hide (fun (W : World) (S' : Nat → Prop) (A' : Option Addr) (n' c' : Nat) (hs : Sl W S' A' n' c' xs) (hn' : n' ≤ 1048576) => show Calls Try.prog 17 #[.slice A' n' c'] W (RetX (.int .i64 rn) W) from hrn ▸ rings_any W S' A' n' c' xs hs hn')
  have HRGD := hide (fun (W : World) (S' : Nat → Prop) (A' : Option Addr) (n' c' : Nat) (hs : Sl W S' A' n' c' xs) (hn' : n' ≤ 1048576) => show Calls Try.prog 18 #[.slice A' n' c'] W (RetX (.int .i64 rn) W) from hrn ▸ ringsD_any W S' A' n' c' xs hs hn')
  have HREF := hide (fun (W : World) (hb : Below w.heap.size w W) => refs_any W _ A n c xs (h.belowAll hb) hm)
  have HSAME := hide same26_any
  have HSR := hide sameRow_any
  have HNR := hide hnr; have HNB := hide hnb
  have HL := hide h.len
  have HSW := hide h
  obtain ⟨i0, hi, hz, hz1, hz2⟩ := info_parts info_Move
  have HI0 := hide hi; have HZ := hide hz; have HZ1 := hide hz1; have HZ2 := hide hz2
  clear hi hz hz1 hz2 hRI hRE hrr hrn hBS hnr hnb h
  obtain ⟨g0, hg0⟩ : ∃ g, w.heap.size = g := ⟨_, rfl⟩
  go_enter Try.func3, Try.ntmps3
  go_wp2_with (at_builtin; refine wpList_push_sl (α := Move) (w.alloc (.cells #[] 42)) rfl (.tmp 18) (.tmp 19) 22 rfl w.heap.size 42 i0 _ 32 Try.underlying22 HI0.out HZ.out HZ1.out HZ2.out rfl (by decide) (fun _ => False) (fun b => b < w.heap.size) (fun b => b < w.heap.size) (.slice (some ⟨g0, 0, none⟩) 0 0) [] xs rfl (OwnL.of_block (xs := ([] : List Move)) (n := 0) (c := 0) (cur := #[]) rfl (Nat.le_refl _) (by unfold maxLen; omega) (by omega) id (by rw [← hg0]; exact heap_alloc_new w _) rfl rfl) A n c rfl ((HSW.out.more fun b hb _ => hb).alloc _) (fun _ h => h.elim) (fun _ _ h => h) (fun q hq e => by simp [Value.ownBlock] at hq; omega) (fun b hb => by simp; omega) (by simp only [List.length_nil]; omega) (by simp only [List.length_nil]; omega) (by simp) ?_; intro vi w1 hoi hgi hri; have HOI := hide hoi; have HGI := hide hgi; clear hoi hgi hri; refine Hd.out ?_)

  obtain ⟨Ai, ci, rfl⟩ := HOI.out.form
  have hxn : ([] ++ xs).length = n := by rw [List.nil_append]; exact HL.out
  rw [hxn] at HOI ⊢
  clear hxn
  have HB1 := hide (show Below w.heap.size w w1 from ((Below.refl _ _).alloc (Nat.le_refl _) _).grown HGI.out (by simp) fun r e => by simp [Value.ownBlock] at e; omega)
  have HI1 := hide (show OwnL w1 w.heap.size 42 (fun _ => False) (.slice Ai n ci) xs from HOI.out.moves)
  have HC1 := hide (Below.refl w1.heap.size w1)
  have HB1S := hide HB1.out.size
  have HIW := hide (show ∀ b, (Value.slice Ai n ci).ownBlock = some b → b < w1.heap.size from fun b hb => (HI1.out.below_ b hb).2)
  clear HOI HGI
  refine hide ?_
  go_wp2_with (go_at_call 8; (with_reducible refine (HROW.out w1 (fun _ => True) Ai n ci (HI1.out.sl fun _ _ _ => trivial) hm).mono ?_); rintro e _ ⟨Aa, na, ca, rfl, ho, u2, rfl⟩; refine Hd.out ?_)
  obtain ⟨W2, hW2⟩ : ∃ W, w1.ext u2 = W := ⟨_, rfl⟩
  have HB2 := hide (show Below w.heap.size w W2 by rw [← hW2]; exact HB1.out.ext HB1.out.size u2)
  have HI2 := hide (show OwnL W2 w.heap.size 42 (fun _ => False) (.slice Ai n ci) xs by rw [← hW2]; exact HI1.out.ext u2)
  have HC2 := hide (show Below w1.heap.size w1 W2 by rw [← hW2]; exact HC1.out.ext HC1.out.size u2)
  have en : nr = na := by obtain ⟨_, _, e⟩ := ho.form; injection e with _ e _; rw [e]; exact HNR.out.symm
  subst en
  have Oa2 := hide (show OwnLN W2 w1.heap.size 54 (fun _ => False) (.slice Aa nr ca) RI by rw [← hW2]; exact ho.lower HC1.out.size)
  have hloa : ∀ b, (Value.slice Aa nr ca).ownBlock = some b → w1.heap.size ≤ b := fun b hb => (ho.below_ b hb).1
  clear ho
  rw [hW2]
  clear hW2 HB1 HI1 HC1
  refine hide ?_
  go_wp2_with (go_at_call 10; (with_reducible refine (HREF.out W2 HB2.out).mono ?_); rintro e _ ⟨Ap, np, cp, Sp, rfl, ho, hSp, u3, rfl⟩; refine Hd.out ?_)
  obtain ⟨W3, hW3⟩ : ∃ W, W2.ext u3 = W := ⟨_, rfl⟩
  have HB3 := hide (show Below w.heap.size w W3 by rw [← hW3]; exact HB2.out.ext HB2.out.size u3)
  have HI3 := hide (show OwnL W3 w.heap.size 42 (fun _ => False) (.slice Ai n ci) xs by rw [← hW3]; exact HI2.out.ext u3)
  have HC3 := hide (show Below w1.heap.size w1 W3 by rw [← hW3]; exact HC2.out.ext HC2.out.size u3)
  have Oa3 := hide (show OwnLN W3 w1.heap.size 54 (fun _ => False) (.slice Aa nr ca) RI by rw [← hW3]; exact Oa2.out.ext u3)
  have hnp : np = n := by obtain ⟨_, _, e⟩ := ho.form; injection e with _ e _; rw [e]; exact HL.out
  have Rp3 := hide (show Sl W3 (fun _ => True) Ap np cp xs by rw [← hW3]; exact ho.sl fun _ _ _ => trivial)
  rw [hnp] at Rp3 ⊢
  clear ho hSp hnp
  rw [hW3]
  clear hW3 HB2 HI2 HC2 Oa2
  refine hide ?_
  go_wp2_with (go_at_call 9; (with_reducible refine (HROWD.out W3 (fun _ => True) Ap n cp Rp3.out hm).mono ?_); rintro e _ ⟨Ab, nb, cb, rfl, ho, u4, rfl⟩; refine Hd.out ?_)
  obtain ⟨W4, hW4⟩ : ∃ W, W3.ext u4 = W := ⟨_, rfl⟩
  have HB4 := hide (show Below w.heap.size w W4 by rw [← hW4]; exact HB3.out.ext HB3.out.size u4)
  have HI4 := hide (show OwnL W4 w.heap.size 42 (fun _ => False) (.slice Ai n ci) xs by rw [← hW4]; exact HI3.out.ext u4)
  have HC4 := hide (show Below w1.heap.size w1 W4 by rw [← hW4]; exact HC3.out.ext HC3.out.size u4)
  have Oa4 := hide (show OwnLN W4 w1.heap.size 54 (fun _ => False) (.slice Aa nr ca) RI by rw [← hW4]; exact Oa3.out.ext u4)
  have Rp4 := hide (show Sl W4 (fun _ => True) Ap n cp xs by rw [← hW4]; exact Rp3.out.ext u4)
  have en : nr = nb := by obtain ⟨_, _, e⟩ := ho.form; injection e with _ e _; rw [e]; exact HNR.out.symm
  subst en
  have Ob4 := hide (show OwnL W4 w1.heap.size 54 (fun _ => False) (.slice Ab nr cb) RI by rw [← hW4]; exact ho.lower HC3.out.size)
  have hlob : ∀ b, (Value.slice Ab nr cb).ownBlock = some b → W3.heap.size ≤ b := fun b hb => (ho.below_ b hb).1
  clear ho
  rw [hW4]
  clear hW4 HB3 HI3 HC3 Oa3 Rp3
  refine hide ?_
  clear Rp4
  go_wp2_with (go_at_call 8; (with_reducible refine (HROW.out W4 (fun _ => True) Ai n ci (HI4.out.sl fun _ _ _ => trivial) hm).mono ?_); rintro e _ ⟨Aq, nq, cq, rfl, ho, u5, rfl⟩; refine Hd.out ?_)
  obtain ⟨W5, hW5⟩ : ∃ W, W4.ext u5 = W := ⟨_, rfl⟩
  have HB5 := hide (show Below w.heap.size w W5 by rw [← hW5]; exact HB4.out.ext HB4.out.size u5)
  have HI5 := hide (show OwnL W5 w.heap.size 42 (fun _ => False) (.slice Ai n ci) xs by rw [← hW5]; exact HI4.out.ext u5)
  have HC5 := hide (show Below w1.heap.size w1 W5 by rw [← hW5]; exact HC4.out.ext HC4.out.size u5)
  have Oa5 := hide (show OwnLN W5 w1.heap.size 54 (fun _ => False) (.slice Aa nr ca) RI by rw [← hW5]; exact Oa4.out.ext u5)
  have Ob5 := hide (show OwnL W5 w1.heap.size 54 (fun _ => False) (.slice Ab nr cb) RI by rw [← hW5]; exact Ob4.out.ext u5)
  have en : nr = nq := by obtain ⟨_, _, e⟩ := ho.form; injection e with _ e _; rw [e]; exact HNR.out.symm
  subst en
  have Oq5 := hide (show OwnLN W5 w1.heap.size 54 (fun _ => False) (.slice Aq nr cq) RI by rw [← hW5]; exact ho.lower HC4.out.size)
  have hloq : ∀ b, (Value.slice Aq nr cq).ownBlock = some b → W4.heap.size ≤ b := fun b hb => (ho.below_ b hb).1
  have hap : ∀ b, (Value.slice Aa nr ca).ownBlock = some b → (Value.slice Aq nr cq).ownBlock ≠ some b := fun b hb e => by have := (Oa4.out.below_ b hb).2; have := hloq b e; omega
  clear ho
  rw [hW5]
  clear hW5 HB4 HI4 HC4 Oa4 Ob4
  refine hide ?_
  clear hloa hlob hloq
  go_wp2_with (go_at_call 11; (with_reducible refine (HBU.out W5 (fun _ => True) Ai n ci (HI5.out.sl fun _ _ _ => trivial) hm).mono ?_); rintro e _ ⟨Ad, nd, cd, Sd, rfl, ho, hSd, u6, rfl⟩; refine Hd.out ?_)
  obtain ⟨W6, hW6⟩ : ∃ W, W5.ext u6 = W := ⟨_, rfl⟩
  have HB6 := hide (show Below w.heap.size w W6 by rw [← hW6]; exact HB5.out.ext HB5.out.size u6)
  have HI6 := hide (show OwnL W6 w.heap.size 42 (fun _ => False) (.slice Ai n ci) xs by rw [← hW6]; exact HI5.out.ext u6)
  have HC6 := hide (show Below w1.heap.size w1 W6 by rw [← hW6]; exact HC5.out.ext HC5.out.size u6)
  have Oa6 := hide (show OwnLN W6 w1.heap.size 54 (fun _ => False) (.slice Aa nr ca) RI by rw [← hW6]; exact Oa5.out.ext u6)
  have Ob6 := hide (show OwnL W6 w1.heap.size 54 (fun _ => False) (.slice Ab nr cb) RI by rw [← hW6]; exact Ob5.out.ext u6)
  have Oq6 := hide (show OwnLN W6 w1.heap.size 54 (fun _ => False) (.slice Aq nr cq) RI by rw [← hW6]; exact Oq5.out.ext u6)
  have en : nb = nd := by obtain ⟨_, _, e⟩ := ho.form; injection e with _ e _; rw [e]; exact HNB.out.symm
  subst en
  have Od6 := hide (show OwnL W6 w1.heap.size 42 (fun _ => False) (.slice Ad nb cd) BS by rw [← hW6]; exact ho.moves.lower HC5.out.size)
  have had : ∀ b, (Value.slice Ad nb cd).ownBlock = some b → (Value.slice Aa nr ca).ownBlock ≠ some b ∧ (Value.slice Aq nr cq).ownBlock ≠ some b ∧ (Value.slice Ai n ci).ownBlock ≠ some b := fun b hb => by have h1 := (ho.below_ b hb).1; exact ⟨fun e => by have := (Oa5.out.below_ b e).2; omega, fun e => by have := (Oq5.out.below_ b e).2; omega, fun e => by have := (HI5.out.below_ b e).2; omega⟩
  clear ho hSd
  rw [hW6]
  clear hW6 HB5 HI5 HC5 Oa5 Ob5 Oq5
  refine hide ?_
  go_wp2_with (go_at_call 12; (with_reducible refine (HRT.out W6 (fun _ => True) Ai n ci (HI6.out.sl fun _ _ _ => trivial) hm).mono ?_); rintro e _ ⟨rfl, u7, rfl⟩; refine Hd.out ?_)
  obtain ⟨W7, hW7⟩ : ∃ W, W6.ext u7 = W := ⟨_, rfl⟩
  have HB7 := hide (show Below w.heap.size w W7 by rw [← hW7]; exact HB6.out.ext HB6.out.size u7)
  have HI7 := hide (show OwnL W7 w.heap.size 42 (fun _ => False) (.slice Ai n ci) xs by rw [← hW7]; exact HI6.out.ext u7)
  have HC7 := hide (show Below w1.heap.size w1 W7 by rw [← hW7]; exact HC6.out.ext HC6.out.size u7)
  have Oa7 := hide (show OwnLN W7 w1.heap.size 54 (fun _ => False) (.slice Aa nr ca) RI by rw [← hW7]; exact Oa6.out.ext u7)
  have Ob7 := hide (show OwnL W7 w1.heap.size 54 (fun _ => False) (.slice Ab nr cb) RI by rw [← hW7]; exact Ob6.out.ext u7)
  have Oq7 := hide (show OwnLN W7 w1.heap.size 54 (fun _ => False) (.slice Aq nr cq) RI by rw [← hW7]; exact Oq6.out.ext u7)
  have Od7 := hide (show OwnL W7 w1.heap.size 42 (fun _ => False) (.slice Ad nb cd) BS by rw [← hW7]; exact Od6.out.ext u7)
  rw [hW7]
  clear hW7 HB6 HI6 HC6 Oa6 Ob6 Oq6 Od6
  refine hide ?_
  go_wp2_with (go_at_call 10; (with_reducible refine (HREF.out W7 HB7.out).mono ?_); rintro e _ ⟨Az, nz, cz, Sz, rfl, ho, hSz, u8, rfl⟩; refine Hd.out ?_)
  obtain ⟨W8, hW8⟩ : ∃ W, W7.ext u8 = W := ⟨_, rfl⟩
  have HB8 := hide (show Below w.heap.size w W8 by rw [← hW8]; exact HB7.out.ext HB7.out.size u8)
  have HI8 := hide (show OwnL W8 w.heap.size 42 (fun _ => False) (.slice Ai n ci) xs by rw [← hW8]; exact HI7.out.ext u8)
  have HC8 := hide (show Below w1.heap.size w1 W8 by rw [← hW8]; exact HC7.out.ext HC7.out.size u8)
  have Oa8 := hide (show OwnLN W8 w1.heap.size 54 (fun _ => False) (.slice Aa nr ca) RI by rw [← hW8]; exact Oa7.out.ext u8)
  have Ob8 := hide (show OwnL W8 w1.heap.size 54 (fun _ => False) (.slice Ab nr cb) RI by rw [← hW8]; exact Ob7.out.ext u8)
  have Oq8 := hide (show OwnLN W8 w1.heap.size 54 (fun _ => False) (.slice Aq nr cq) RI by rw [← hW8]; exact Oq7.out.ext u8)
  have Od8 := hide (show OwnL W8 w1.heap.size 42 (fun _ => False) (.slice Ad nb cd) BS by rw [← hW8]; exact Od7.out.ext u8)
  have hnz : nz = n := by obtain ⟨_, _, e⟩ := ho.form; injection e with _ e _; rw [e]; exact HL.out
  have Rz8 := hide (show Sl W8 (fun _ => True) Az nz cz xs by rw [← hW8]; exact ho.sl fun _ _ _ => trivial)
  rw [hnz] at Rz8 ⊢
  clear ho hSz hnz
  rw [hW8]
  clear hW8 HB7 HI7 HC7 Oa7 Ob7 Oq7 Od7
  refine hide ?_
  go_wp2_with (go_at_call 13; (with_reducible refine (HRTD.out W8 (fun _ => True) Az n cz Rz8.out).mono ?_); rintro e _ ⟨rfl, u9, rfl⟩; refine Hd.out ?_)
  obtain ⟨W9, hW9⟩ : ∃ W, W8.ext u9 = W := ⟨_, rfl⟩
  have HB9 := hide (show Below w.heap.size w W9 by rw [← hW9]; exact HB8.out.ext HB8.out.size u9)
  have HI9 := hide (show OwnL W9 w.heap.size 42 (fun _ => False) (.slice Ai n ci) xs by rw [← hW9]; exact HI8.out.ext u9)
  have HC9 := hide (show Below w1.heap.size w1 W9 by rw [← hW9]; exact HC8.out.ext HC8.out.size u9)
  have Oa9 := hide (show OwnLN W9 w1.heap.size 54 (fun _ => False) (.slice Aa nr ca) RI by rw [← hW9]; exact Oa8.out.ext u9)
  have Ob9 := hide (show OwnL W9 w1.heap.size 54 (fun _ => False) (.slice Ab nr cb) RI by rw [← hW9]; exact Ob8.out.ext u9)
  have Oq9 := hide (show OwnLN W9 w1.heap.size 54 (fun _ => False) (.slice Aq nr cq) RI by rw [← hW9]; exact Oq8.out.ext u9)
  have Od9 := hide (show OwnL W9 w1.heap.size 42 (fun _ => False) (.slice Ad nb cd) BS by rw [← hW9]; exact Od8.out.ext u9)
  have Rz9 := hide (show Sl W9 (fun _ => True) Az n cz xs by rw [← hW9]; exact Rz8.out.ext u9)
  rw [hW9]
  clear hW9 HB8 HI8 HC8 Oa8 Ob8 Oq8 Od8 Rz8
  refine hide ?_
  clear Rz9
  go_wp2_with (go_at_call 14; (with_reducible refine (HSR.out W9 (fun _ => True) (fun _ => True) Aa Ab nr ca cb RI (Oa9.out.sl fun _ _ _ => trivial) (Ob9.out.sl fun _ _ _ => trivial)).mono ?_); rintro e _ ⟨rfl, u10, rfl⟩; refine Hd.out ?_)
  obtain ⟨W10, hW10⟩ : ∃ W, W9.ext u10 = W := ⟨_, rfl⟩
  have HB10 := hide (show Below w.heap.size w W10 by rw [← hW10]; exact HB9.out.ext HB9.out.size u10)
  have HI10 := hide (show OwnL W10 w.heap.size 42 (fun _ => False) (.slice Ai n ci) xs by rw [← hW10]; exact HI9.out.ext u10)
  have HC10 := hide (show Below w1.heap.size w1 W10 by rw [← hW10]; exact HC9.out.ext HC9.out.size u10)
  have Oa10 := hide (show OwnLN W10 w1.heap.size 54 (fun _ => False) (.slice Aa nr ca) RI by rw [← hW10]; exact Oa9.out.ext u10)
  have Ob10 := hide (show OwnL W10 w1.heap.size 54 (fun _ => False) (.slice Ab nr cb) RI by rw [← hW10]; exact Ob9.out.ext u10)
  have Oq10 := hide (show OwnLN W10 w1.heap.size 54 (fun _ => False) (.slice Aq nr cq) RI by rw [← hW10]; exact Oq9.out.ext u10)
  have Od10 := hide (show OwnL W10 w1.heap.size 42 (fun _ => False) (.slice Ad nb cd) BS by rw [← hW10]; exact Od9.out.ext u10)
  rw [hW10]
  clear hW10 HB9 HI9 HC9 Oa9 Ob9 Oq9 Od9
  refine hide ?_
  clear Ob10
  go_wp2_with (go_at_call 10; (with_reducible refine (HREF.out W10 HB10.out).mono ?_); rintro e _ ⟨As, ns, cs, Ss, rfl, ho, hSs, u11, rfl⟩; refine Hd.out ?_)
  obtain ⟨W11, hW11⟩ : ∃ W, W10.ext u11 = W := ⟨_, rfl⟩
  have HB11 := hide (show Below w.heap.size w W11 by rw [← hW11]; exact HB10.out.ext HB10.out.size u11)
  have HI11 := hide (show OwnL W11 w.heap.size 42 (fun _ => False) (.slice Ai n ci) xs by rw [← hW11]; exact HI10.out.ext u11)
  have HC11 := hide (show Below w1.heap.size w1 W11 by rw [← hW11]; exact HC10.out.ext HC10.out.size u11)
  have Oa11 := hide (show OwnLN W11 w1.heap.size 54 (fun _ => False) (.slice Aa nr ca) RI by rw [← hW11]; exact Oa10.out.ext u11)
  have Oq11 := hide (show OwnLN W11 w1.heap.size 54 (fun _ => False) (.slice Aq nr cq) RI by rw [← hW11]; exact Oq10.out.ext u11)
  have Od11 := hide (show OwnL W11 w1.heap.size 42 (fun _ => False) (.slice Ad nb cd) BS by rw [← hW11]; exact Od10.out.ext u11)
  have hns : ns = n := by obtain ⟨_, _, e⟩ := ho.form; injection e with _ e _; rw [e]; exact HL.out
  have Rs11 := hide (show Sl W11 (fun _ => True) As ns cs xs by rw [← hW11]; exact ho.sl fun _ _ _ => trivial)
  rw [hns] at Rs11 ⊢
  clear ho hSs hns
  rw [hW11]
  clear hW11 HB10 HI10 HC10 Oa10 Oq10 Od10
  refine hide ?_
  go_wp2_with (go_at_call 16; (with_reducible refine (HBUD.out W11 (fun _ => True) As n cs Rs11.out hm).mono ?_); rintro e _ ⟨Ae, ne, ce, Se, rfl, ho, hSe, u12, rfl⟩; refine Hd.out ?_)
  obtain ⟨W12, hW12⟩ : ∃ W, W11.ext u12 = W := ⟨_, rfl⟩
  have HB12 := hide (show Below w.heap.size w W12 by rw [← hW12]; exact HB11.out.ext HB11.out.size u12)
  have HI12 := hide (show OwnL W12 w.heap.size 42 (fun _ => False) (.slice Ai n ci) xs by rw [← hW12]; exact HI11.out.ext u12)
  have HC12 := hide (show Below w1.heap.size w1 W12 by rw [← hW12]; exact HC11.out.ext HC11.out.size u12)
  have Oa12 := hide (show OwnLN W12 w1.heap.size 54 (fun _ => False) (.slice Aa nr ca) RI by rw [← hW12]; exact Oa11.out.ext u12)
  have Oq12 := hide (show OwnLN W12 w1.heap.size 54 (fun _ => False) (.slice Aq nr cq) RI by rw [← hW12]; exact Oq11.out.ext u12)
  have Od12 := hide (show OwnL W12 w1.heap.size 42 (fun _ => False) (.slice Ad nb cd) BS by rw [← hW12]; exact Od11.out.ext u12)
  have Rs12 := hide (show Sl W12 (fun _ => True) As n cs xs by rw [← hW12]; exact Rs11.out.ext u12)
  have en : nb = ne := by obtain ⟨_, _, e⟩ := ho.form; injection e with _ e _; rw [e]; exact HNB.out.symm
  subst en
  have Re12 := hide (show Sl W12 (fun _ => True) Ae nb ce BS by rw [← hW12]; exact ho.sl fun _ _ _ => trivial)
  clear ho hSe
  rw [hW12]
  clear hW12 HB11 HI11 HC11 Oa11 Oq11 Od11 Rs11
  refine hide ?_
  clear Rs12
  go_wp2_with (go_at_call 15; (with_reducible refine (HSAME.out W12 (fun _ => True) (fun _ => True) Ad Ae nb cd ce BS (Od12.out.sl fun _ _ _ => trivial) Re12.out).mono ?_); rintro e _ ⟨rfl, u13, rfl⟩; refine Hd.out ?_)
  obtain ⟨W13, hW13⟩ : ∃ W, W12.ext u13 = W := ⟨_, rfl⟩
  have HB13 := hide (show Below w.heap.size w W13 by rw [← hW13]; exact HB12.out.ext HB12.out.size u13)
  have HI13 := hide (show OwnL W13 w.heap.size 42 (fun _ => False) (.slice Ai n ci) xs by rw [← hW13]; exact HI12.out.ext u13)
  have HC13 := hide (show Below w1.heap.size w1 W13 by rw [← hW13]; exact HC12.out.ext HC12.out.size u13)
  have Oa13 := hide (show OwnLN W13 w1.heap.size 54 (fun _ => False) (.slice Aa nr ca) RI by rw [← hW13]; exact Oa12.out.ext u13)
  have Oq13 := hide (show OwnLN W13 w1.heap.size 54 (fun _ => False) (.slice Aq nr cq) RI by rw [← hW13]; exact Oq12.out.ext u13)
  have Od13 := hide (show OwnL W13 w1.heap.size 42 (fun _ => False) (.slice Ad nb cd) BS by rw [← hW13]; exact Od12.out.ext u13)
  have Re13 := hide (show Sl W13 (fun _ => True) Ae nb ce BS by rw [← hW13]; exact Re12.out.ext u13)
  rw [hW13]
  clear hW13 HB12 HI12 HC12 Oa12 Oq12 Od12 Re12
  refine hide ?_
  clear Re13
  go_wp2_with (go_at_call 17; (with_reducible refine (HRG.out W13 (fun _ => True) Ai n ci (HI13.out.sl fun _ _ _ => trivial) hm).mono ?_); rintro e _ ⟨rfl, u14, rfl⟩; refine Hd.out ?_)
  obtain ⟨W14, hW14⟩ : ∃ W, W13.ext u14 = W := ⟨_, rfl⟩
  have HB14 := hide (show Below w.heap.size w W14 by rw [← hW14]; exact HB13.out.ext HB13.out.size u14)
  have HI14 := hide (show OwnL W14 w.heap.size 42 (fun _ => False) (.slice Ai n ci) xs by rw [← hW14]; exact HI13.out.ext u14)
  have HC14 := hide (show Below w1.heap.size w1 W14 by rw [← hW14]; exact HC13.out.ext HC13.out.size u14)
  have Oa14 := hide (show OwnLN W14 w1.heap.size 54 (fun _ => False) (.slice Aa nr ca) RI by rw [← hW14]; exact Oa13.out.ext u14)
  have Oq14 := hide (show OwnLN W14 w1.heap.size 54 (fun _ => False) (.slice Aq nr cq) RI by rw [← hW14]; exact Oq13.out.ext u14)
  have Od14 := hide (show OwnL W14 w1.heap.size 42 (fun _ => False) (.slice Ad nb cd) BS by rw [← hW14]; exact Od13.out.ext u14)
  rw [hW14]
  clear hW14 HB13 HI13 HC13 Oa13 Oq13 Od13
  refine hide ?_
  go_wp2_with (go_at_call 10; (with_reducible refine (HREF.out W14 HB14.out).mono ?_); rintro e _ ⟨Av, nv, cv, Sv, rfl, ho, hSv, u15, rfl⟩; refine Hd.out ?_)
  obtain ⟨W15, hW15⟩ : ∃ W, W14.ext u15 = W := ⟨_, rfl⟩
  have HB15 := hide (show Below w.heap.size w W15 by rw [← hW15]; exact HB14.out.ext HB14.out.size u15)
  have HI15 := hide (show OwnL W15 w.heap.size 42 (fun _ => False) (.slice Ai n ci) xs by rw [← hW15]; exact HI14.out.ext u15)
  have HC15 := hide (show Below w1.heap.size w1 W15 by rw [← hW15]; exact HC14.out.ext HC14.out.size u15)
  have Oa15 := hide (show OwnLN W15 w1.heap.size 54 (fun _ => False) (.slice Aa nr ca) RI by rw [← hW15]; exact Oa14.out.ext u15)
  have Oq15 := hide (show OwnLN W15 w1.heap.size 54 (fun _ => False) (.slice Aq nr cq) RI by rw [← hW15]; exact Oq14.out.ext u15)
  have Od15 := hide (show OwnL W15 w1.heap.size 42 (fun _ => False) (.slice Ad nb cd) BS by rw [← hW15]; exact Od14.out.ext u15)
  have hnv : nv = n := by obtain ⟨_, _, e⟩ := ho.form; injection e with _ e _; rw [e]; exact HL.out
  have Rv15 := hide (show Sl W15 (fun _ => True) Av nv cv xs by rw [← hW15]; exact ho.sl fun _ _ _ => trivial)
  rw [hnv] at Rv15 ⊢
  clear ho hSv hnv
  rw [hW15]
  clear hW15 HB14 HI14 HC14 Oa14 Oq14 Od14
  refine hide ?_
  go_wp2_with (go_at_call 18; (with_reducible refine (HRGD.out W15 (fun _ => True) Av n cv Rv15.out hm).mono ?_); rintro e _ ⟨rfl, u16, rfl⟩; refine Hd.out ?_)
  obtain ⟨W16, hW16⟩ : ∃ W, W15.ext u16 = W := ⟨_, rfl⟩
  have HB16 := hide (show Below w.heap.size w W16 by rw [← hW16]; exact HB15.out.ext HB15.out.size u16)
  have HI16 := hide (show OwnL W16 w.heap.size 42 (fun _ => False) (.slice Ai n ci) xs by rw [← hW16]; exact HI15.out.ext u16)
  have HC16 := hide (show Below w1.heap.size w1 W16 by rw [← hW16]; exact HC15.out.ext HC15.out.size u16)
  have Oa16 := hide (show OwnLN W16 w1.heap.size 54 (fun _ => False) (.slice Aa nr ca) RI by rw [← hW16]; exact Oa15.out.ext u16)
  have Oq16 := hide (show OwnLN W16 w1.heap.size 54 (fun _ => False) (.slice Aq nr cq) RI by rw [← hW16]; exact Oq15.out.ext u16)
  have Od16 := hide (show OwnL W16 w1.heap.size 42 (fun _ => False) (.slice Ad nb cd) BS by rw [← hW16]; exact Od15.out.ext u16)
  have Rv16 := hide (show Sl W16 (fun _ => True) Av n cv xs by rw [← hW16]; exact Rv15.out.ext u16)
  rw [hW16]
  clear hW16 HB15 HI15 HC15 Oa15 Oq15 Od15 Rv15
  refine hide ?_
  clear Rv16
  have hAd : 0 < nb → ∃ gd, Ad = some ⟨gd, 0, none⟩ := fun h0 => by
    obtain ⟨gd, _, e⟩ := Od16.out.cons_form (by intro e; have := HNB.out; rw [e] at this; simp at this; omega)
    injection e with e _ _
    exact ⟨gd, e⟩
  have hrow : ∀ gd, (Value.slice Ad nb cd).ownBlock = some gd → ∃ cur, W16.heap[gd]? = some (.cells cur 42 (0, 0)) ∧ nb * 4 ≤ cur.size := fun gd hgd => by
    obtain ⟨_, ⟨_, l2⟩, _, _⟩ := Od16.out
    rcases l2 with ⟨e, _⟩ | ⟨g', cap, cur, e, _, hh, hnc, _, hsz, _⟩
    · rw [e] at hgd; cases hgd
    · have e2 : (Value.slice Ad nb cd).ownBlock = some g' := by rw [e]; rfl
      have e3 : g' = gd := by rw [e2] at hgd; injection hgd
      subst e3
      refine ⟨cur, hh, ?_⟩
      rw [hsz, show Rep.size Move = 4 from rfl]
      injection e with _ e4 e5
      have := HNB.out
      omega
  have HRW := hide hrow
  obtain ⟨rd, hrd⟩ : ∃ rd, (Value.slice Ad nb cd).ownBlock = rd := ⟨_, rfl⟩
  have HRD := hide hrd
  clear hrow hrd
  go_wp2_with fail
  go_loopw [13] (fun i wr => ∃ k : Nat, k ≤ nb ∧ i = .int .i64 k ∧ W16.grownBy wr rd ∧ ∀ gd, rd = some gd → ∃ cur, wr.heap[gd]? = some (.cells cur 42 (0, 0)) ∧ nb * 4 ≤ cur.size) (fun i _ => nb - (intOf i).toNat)
  case atStart => exact ⟨0, Nat.zero_le _, rfl, World.grownBy.refl _ _, fun gd e => HRW.out gd (HRD.out.trans e)⟩
  clear HRW
  case round =>
    obtain ⟨k, hk, rfl, hgr, hcu⟩ := hrel
    have HGR := hide hgr; have HCU := hide hcu
    have hsz := hgr.size
    clear hgr hcu
    by_cases hlt : k < nb
    · have hki : (k : Int) < nb := by omega
      obtain ⟨gd, rfl⟩ := hAd (by omega)
      have hrd : rd = some gd := HRD.out.symm
      obtain ⟨cur, hcur, hcs⟩ := HCU.out gd hrd
      have hcl : ∀ j, j < nb * 4 → ∃ v, wr.cell? ⟨gd, j, none⟩ = some v := fun j hj => ⟨cur[j]'(by omega), by simp [World.cell?, hcur]⟩
      have hfz : ∀ j, wr.frozen? ⟨gd, j, none⟩ = false := fun j => by simp [World.frozen?, hcur]
      obtain ⟨v0, d0⟩ := hcl (k * 4) (by omega)
      obtain ⟨v1, d1⟩ := hcl (k * 4 + 1) (by omega)
      obtain ⟨v2, d2⟩ := hcl (k * 4 + 2) (by omega)
      obtain ⟨v3, d3⟩ := hcl (k * 4 + 3) (by omega)
      have f0 := hfz (k * 4)
      have f1 := hfz (k * 4 + 1)
      have f2 := hfz (k * 4 + 2)
      have f3 := hfz (k * 4 + 3)
      obtain ⟨WS, hWS⟩ : ∃ V, wr.setCells gd (k * 4) [.bool false, .int .i64 0, .bool false, .int .i64 0] = V := ⟨_, rfl⟩
      have HG2 := hide (show W16.grownBy WS rd by rw [← hWS, hrd]; exact (hrd ▸ HGR.out).trans (setCells_grown gd _ (k * 4) wr))
      have HC2 := hide (show ∀ gd, rd = some gd → ∃ cur, WS.heap[gd]? = some (.cells cur 42 (0, 0)) ∧ nb * 4 ≤ cur.size from fun g' e => by
        have e' : gd = g' := by rw [hrd] at e; injection e
        subst e'
        exact ⟨_, by rw [← hWS]; exact heap_setCells_same _ _ wr cur hcur, by rw [arrSet_size]; exact hcs⟩)
      have hWS2 : (((wr.setCell ⟨gd, k * 4, none⟩ (.bool false)).setCell ⟨gd, k * 4 + 1, none⟩ (.int .i64 0)).setCell ⟨gd, k * 4 + 2, none⟩ (.bool false)).setCell ⟨gd, k * 4 + 3, none⟩ (.int .i64 0) = WS := hWS
      clear hcl hfz hcur hWS hrd
      go_wp2_with fail
      try simp only [hWS2]
      first
        | (go_roundw; case rel => exact ⟨k + 1, by omega, by go_num, HG2.out, HC2.out⟩; case measure => simp [intOf]; omega)
        | exact ⟨⟨k + 1, by omega, by go_num, HG2.out, HC2.out⟩, by simp [intOf]; omega⟩
    · have hkn : k = nb := by omega
      have hlk : decide ((k : Int) < nb) = false := by simp; omega
      obtain ⟨WL, hWL⟩ : ∃ W, wr = W := ⟨_, rfl⟩
      rw [hWL] at HGR ⊢
      have hne : ∀ b, rd ≠ some b → b < W16.heap.size → WL.heap[b]? = W16.heap[b]? := fun b hb hl => HGR.out.block b hl (fun e => hb e.symm)
      have OaL := hide (show OwnLN WL w1.heap.size 54 (fun _ => False) (.slice Aa nr ca) RI from Oa16.out.keep HGR.out.size (fun _ hf => hf.elim) fun b hb => hne b (fun e => (had b (HRD.out.trans e)).1 hb) (Oa16.out.below_ b hb).2)
      have OqL := hide (show OwnLN WL w1.heap.size 54 (fun _ => False) (.slice Aq nr cq) RI from Oq16.out.keep HGR.out.size (fun _ hf => hf.elim) fun b hb => hne b (fun e => (had b (HRD.out.trans e)).2.1 hb) (Oq16.out.below_ b hb).2)
      have HIL := hide (show OwnL WL w.heap.size 42 (fun _ => False) (.slice Ai n ci) xs from HI16.out.keep HGR.out.size (fun _ hf => hf.elim) fun b hb => hne b (fun e => (had b (HRD.out.trans e)).2.2 hb) (HI16.out.below_ b hb).2)
      have hB1 : ∀ b, rd = some b → w1.heap.size ≤ b := fun b e => (Od16.out.below_ b (HRD.out.trans e)).1
      have HCL := hide (show Below w1.heap.size w1 WL from HC16.out.grown HGR.out HC16.out.size hB1)
      have HBL := hide (show Below w.heap.size w WL from HB16.out.grown HGR.out HB16.out.size fun b e => by have := hB1 b e; have := HB1S.out; omega)
      clear hne hB1 hWL HGR HCU HB16 HI16 HC16 Oa16 Oq16 Od16 hkn hsz HRD had hAd
      obtain ⟨g4, hg4⟩ : ∃ g, WL.heap.size = g := ⟨_, rfl⟩
      obtain ⟨X, hX⟩ : ∃ X, WL.alloc (.cells #[.slice Aa nr ca, .slice Aq nr cq] 24) = X := ⟨_, rfl⟩
      have OaX := hide (show OwnLN X w1.heap.size 54 (fun _ => False) (.slice Aa nr ca) RI by rw [← hX]; exact OaL.out.alloc _)
      have OqX := hide (show OwnLN X w1.heap.size 54 (fun _ => False) (.slice Aq nr cq) RI by rw [← hX]; exact OqL.out.alloc _)
      have HIX := hide (show OwnL X w.heap.size 42 (fun _ => False) (.slice Ai n ci) xs by rw [← hX]; exact HIL.out.alloc _)
      have HGX := hide (show X.heap[g4]? = some (.cells #[.slice Aa nr ca, .slice Aq nr cq] 24 (0, 0)) by rw [← hX, ← hg4]; exact heap_alloc_new WL _)
      have HCX := hide (show Below w1.heap.size w1 X by rw [← hX]; exact HCL.out.alloc HCL.out.size _)
      have HBX := hide (show Below w.heap.size w X by rw [← hX]; exact HBL.out.alloc HBL.out.size _)
      have HAP := hide (apartTwo_any X w1.heap.size g4 Aa Aq nr ca nr cq RI RI OaX.out OqX.out hap HGX.out (by rw [← hg4]; exact HCL.out.size) (fun b hb => by have := (OaL.out.below_ b hb).2; omega) (fun b hb => by have := (OqL.out.below_ b hb).2; omega) (by omega) (by omega))
      have HXB := hide (fun (V : World) (hb : Below w1.heap.size X V) => show Below w.heap.size w V from HBX.out.trans (hb.mono HB1S.out))
      have HIV := hide (fun (V : World) (hb : Below w1.heap.size X V) => show Sl V (fun _ => True) Ai n ci xs from by
        have hs := HCX.out.size
        exact (HIX.out.keep (by have := hb.size; omega) (fun _ hf => hf.elim) fun b hb2 => hb.block b (HIW.out b hb2)).sl fun _ _ _ => trivial)
      clear OaL OqL HIL HCL HBL OaX OqX HIX HGX hap
      go_wp2_with (first
        | (go_at_call 19; (try rw [hX]); (try rw [hg4]); (with_reducible refine HAP.out.mono ?_); rintro e wp ⟨rfl, hbp⟩; have HBP := hide hbp; clear hbp; refine Hd.out ?_))
      refine hide ?_
      go_wp2_with (first
        | (go_at_call 10; (with_reducible refine (HREF.out wp (HXB.out wp HBP.out)).mono ?_); rintro e _ ⟨Ay, ny, cy, Sy, rfl, ho, hSy, uy, rfl⟩; have HOY := hide ho; clear ho hSy; refine Hd.out ?_))
      have hny : n = ny := by obtain ⟨_, _, e⟩ := HOY.out.form; injection e with _ e _; rw [e]; exact HL.out.symm
      subst hny
      have hcs := HCX.out.size
      have hps := HBP.out.size
      have HPY := hide (show Below w1.heap.size X (wp.ext uy) from HBP.out.ext (by omega) uy)
      have HSM := hide (HSAME.out (wp.ext uy) (fun _ => True) (fun _ => True) Ai Ay n ci cy xs (HIV.out _ HPY.out) (HOY.out.sl fun _ _ _ => trivial))
      refine hide ?_
      go_wp2_with (first
        | (go_at_call 15; (with_reducible refine HSM.out.mono ?_); rintro e _ ⟨rfl, uz, rfl⟩)
        | (go_at_call 7; (with_reducible refine (HAW.out _).mono ?_); rintro e _ ⟨rfl, uw, rfl⟩))
      go_ret
      exact RetX.b rfl (HXB.out _ ((HPY.out.ext (by rw [size_ext]; omega) uz).ext (by simp only [size_ext]; omega) uw))
end Go.Proofs.Ytoghikagooegbaa
