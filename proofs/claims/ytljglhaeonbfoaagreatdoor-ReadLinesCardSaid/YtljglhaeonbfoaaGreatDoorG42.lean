/- law04: walks: the document goes over variables up to a line's end. law04: walks: the document goes over variables up to a line's end. Printed by gen_d4d.py. -/
import Derived.Test.YtljglhaeonbfoaaGreatDoorG41
import Derived.BigGuardPart
set_option linter.unusedSimpArgs false
set_option linter.unusedVariables false
namespace Go.Proofs.YtljglhaeonbfoaaGreatDoor
open Go.RowKit
theorem fail_bad4 {s : Cur} (h : s.e ≠ 0) (x : Int) : failC x s = s := by unfold failC; rw [if_pos (.inl h)]
theorem fail_e4 {s : Cur} {x : Int} (hx : x ≠ 0) : (failC x s).e ≠ 0 := by
 unfold failC
 split
 ·rename_i h
  rcases h with h | h
  ·exact h
  ·exact absurd h hx
 ·split <;> exact hx
theorem peek_bad4 {s : Cur} (h : s.e ≠ 0) : vW (peekC s) = 0 := by unfold peekC; rw [headC_bad h]; exact vW_empty
theorem var_bad4 {s : Cur} (h : s.e ≠ 0) : varC s = (0, s) := by unfold varC; rw [if_pos (peek_bad4 h), fail_bad4 h]
theorem someG_doc {u : Bool} {l : List Int} {s t : Cur} (he : endsC s = false) (hl : ¬ l.length = 8) (ht : (if u = true ∧ l.contains (vW (peekC s)) = true then failC 7 s else s) = t) : someG true u (l, s) = some (l ++ [(varC t).1], (varC t).2) := by
 unfold someG
 rw [if_neg (by simp only; rw [he]; decide), if_neg hl]
 by_cases hc : u = true ∧ l.contains (vW (peekC s)) = true
 ·rw [if_pos hc] at ht
  rw [if_pos hc, ← ht, var_bad4 (fail_e4 (by decide))]
  rfl
 ·rw [if_neg hc] at ht
  rw [if_neg hc, ht]
inductive DEnds (w : World) (c : Nat) (s : Cur) : Prop where
 | no (he : endsC s = true) (hm : moreC s = false)
 | eol (he : endsC s = true) (hm : moreC s = true) (n k b off : Nat) (k0 : w.cell? ⟨c, 0, none⟩ = some (.slice (some ⟨b, off, none⟩) n k)) (hn : 0 < n) (hb : b < w.heap.size) (c0 : w.cell? ⟨b, off, none⟩ = some (.int .i64 4))
 | go (he : endsC s = false) (hm : moreC s = true) (x : Int) (n k b off : Nat) (k0 : w.cell? ⟨c, 0, none⟩ = some (.slice (some ⟨b, off, none⟩) n k)) (hn : 0 < n) (hb : b < w.heap.size) (c0 : w.cell? ⟨b, off, none⟩ = some (.int .i64 x)) (hx : (x != 4) = true)
theorem DocAt.ends_ {w : World} {S : Nat → Prop} {c : Nat} {s : Cur} (h : DocAt w S c s) : DEnds w c s := by
 cases h.next with
 | bad he => exact .no (by unfold endsC; rw [headC_bad' he]) (by unfold moreC; rw [he]; rfl)
 | none he hw k A k0 => exact .no (by unfold endsC; rw [headC_nil hw]) (by unfold moreC; rw [he, hw]; rfl)
 | some x l he hw n k b off k0 hn hnk hn9 hb hcb c0 c1 c2 c3 c4 =>
  have hm : moreC s = true := by unfold moreC; rw [he, hw]; rfl
  have hg : endsC s = (x.kind == 4) := by unfold endsC; rw [headC_cons he hw]
  by_cases h4 : x.kind = 4
  ·rw [h4] at c0 hg
   exact .eol hg hm n k b off k0 hn hb c0
  ·exact .go (by rw [hg]; simpa using h4) hm x.kind n k b off k0 hn hb c0 (by simpa using h4)
theorem DocAt.leftM4 {w : World} {S : Nat → Prop} {c : Nat} {s : Cur} (h : DocAt w S c s) : leftM c w = leftC s := by
 obtain ⟨A, n, k, k0, k1, _, _, hs⟩ := h.at_
 unfold leftM leftC
 rw [k0, k1]
 have := hs.len
 rw [this]
structure DA4 (w0 W : World) (R c : Nat) (S : Nat → Prop) (s : Cur) : Prop where
 rd : Dd4 W S c s
 only : Only c w0 W
 o1 : c < R
 o3 : ∀ b, S b → b < R
 o4 : w0.heap.size = R
section
variable {w0 W W' : World} {R M c : Nat} {S : Nat → Prop} {s s' : Cur} {T : TypeId} {cs cs' : Array Value}
theorem DA4.start (h : Dd4 W S c s) : DA4 W W W.heap.size c (fun b => S b ∧ b < W.heap.size) s where
 rd := ⟨h.cur.moreS (fun b hb hS => ⟨hS, hb⟩) fun e => h.cur.nS e.1, h.vars, h.og⟩
 only := Only.refl c W
 o1 := h.cur.lt
 o3 := fun b hb => hb.2
 o4 := rfl
theorem DA4.rl (h : DA4 w0 W R c S s) : R ≤ W.heap.size := by have := h.only.size; rw [h.o4] at this; exact this
theorem DA4.cl (h : DA4 w0 W R c S s) : c < W.heap.size := by have := h.rl; have := h.o1; omega
theorem DA4.call (h : DA4 w0 W R c S s) (hon : Only c W W') (hat : DocAt W' S c s') : DA4 w0 W' R c S s' := ⟨h.rd.call hon hat, h.only.trans hon, h.o1, h.o3, h.o4⟩
theorem DA4.ext (h : DA4 w0 W R c S s) (u : Ext) : DA4 w0 (W.ext u) R c S s := h.call ((Only.refl c W).ext u) (h.rd.cur.ext u)
theorem DA4.alloc (h : DA4 w0 W R c S s) (o : Obj) : DA4 w0 (W.alloc o) R c S s := h.call ((Only.refl c W).alloc o) (h.rd.alloc o).cur
theorem DA4.grown {row : Option Nat} (h : DA4 w0 W R c S s) (hg : W.grownBy W' row) (hr : ∀ g, row = some g → R ≤ g) : DA4 w0 W' R c S s := by
 have hk : ∀ b, b < W.heap.size → b < R → W'.heap[b]? = W.heap[b]? := fun b hb hm => hg.block b hb (fun e => by have := hr b e.symm; omega)
 have o1 := h.o1; have o4 := h.o4; have rl := h.rl; have og := h.rd.og
 have hb0 : Below R W W' := (Below.refl _ _).grown hg (by omega) (fun r e => hr r e)
 exact ⟨⟨h.rd.cur.keep hg.size (hk c (by omega) o1) (fun b hS hb => hk b hb (h.o3 b hS)), h.rd.vars.below hb0 (by omega), og⟩, ⟨hb0.os.trans h.only.os, hb0.tape.trans h.only.tape, hb0.output.trans h.only.output, Nat.le_trans h.only.size hg.size, fun b hb hc => (hk b (by have := h.only.size; omega) (by omega)).trans (h.only.block b hb hc)⟩, o1, h.o3, o4⟩
theorem DA4.set (h : DA4 w0 W R c S s) (hM : R ≤ M) (j : Nat) (x : Value) : DA4 w0 (W.setCell ⟨M, j, none⟩ x) R c S s where
 rd := ⟨h.rd.cur.keep (by simp) (Below.heap_setCell W ⟨M, j, none⟩ x c (by show c ≠ M; have := h.o1; omega)) fun b hS _ => Below.heap_setCell W ⟨M, j, none⟩ x b (by show b ≠ M; have := h.o3 b hS; omega), h.rd.vars.keep (by simp) fun b hb => Below.heap_setCell W ⟨M, j, none⟩ x b (by show b ≠ M; have := h.o1; have := h.rd.og; omega), h.rd.og⟩
 only := ⟨h.only.os, h.only.tape, h.only.output, by have := h.only.size; simpa using this, fun b hb hc => (Below.heap_setCell W ⟨M, j, none⟩ x b (by show b ≠ M; have := h.o4; omega)).trans (h.only.block b hb hc)⟩
 o1 := h.o1
 o3 := h.o3
 o4 := h.o4
structure DX4 (w0 W : World) (R M c : Nat) (S : Nat → Prop) (T : TypeId) (cs : Array Value) (s : Cur) : Prop where
 ra : DA4 w0 W R c S s
 row : W.heap[M]? = some (.cells cs T (0, 0))
 o2 : R ≤ M
theorem DX4.ml (h : DX4 w0 W R M c S T cs s) : M < W.heap.size := (Array.getElem?_eq_some_iff.1 h.row).1
theorem DX4.fz (h : DX4 w0 W R M c S T cs s) (j : Nat) : W.frozen? ⟨M, j, none⟩ = false := by simp [World.frozen?, h.row]
theorem DX4.start (h : DA4 w0 W R c S s) (cs : Array Value) (T : TypeId) : DX4 w0 (W.alloc (.cells cs T)) R W.heap.size c S T cs s := ⟨h.alloc _, heap_alloc_new W _, h.rl⟩
theorem DX4.call (h : DX4 w0 W R M c S T cs s) (hon : Only c W W') (hat : DocAt W' S c s') : DX4 w0 W' R M c S T cs s' :=
 ⟨h.ra.call hon hat, (hon.block M h.ml (by have := h.ra.o1; have := h.o2; omega)).trans h.row, h.o2⟩
theorem DX4.ext (h : DX4 w0 W R M c S T cs s) (u : Ext) : DX4 w0 (W.ext u) R M c S T cs s := h.call ((Only.refl c W).ext u) (h.ra.rd.cur.ext u)
theorem DX4.alloc (h : DX4 w0 W R M c S T cs s) (o : Obj) : DX4 w0 (W.alloc o) R M c S T cs s := h.call ((Only.refl c W).alloc o) (h.ra.rd.alloc o).cur
theorem DX4.set (h : DX4 w0 W R M c S T cs s) {j : Nat} {x : Value} (hr : cs.setIfInBounds j x = cs') : DX4 w0 (W.setCell ⟨M, j, none⟩ x) R M c S T cs' s := ⟨h.ra.set h.o2 j x, by rw [row_setB h.row, hr], h.o2⟩
end
def DListP (S : Nat → Prop) (c : Nat) (w : World) (r : List Int × Cur) (e : Ending) (w' : World) : Prop :=
 ∃ A n k, e = .returned (.slice A n k) ∧ OwnL w' w.heap.size 3 (fun _ => False) (.slice A n k) r.1 ∧ DocAt w' S c r.2 ∧ Only c w w'
end Go.Proofs.YtljglhaeonbfoaaGreatDoor
namespace Go.Proofs.YtljglhaeonbfoaaGreatDoor
open Go.RowKit
theorem ends_bad4 {s : Cur} (h : s.e ≠ 0) : endsC s = true := by unfold endsC; rw [headC_bad h]
set_option maxRecDepth 100000 in
set_option maxHeartbeats 16000000 in
theorem dsome_any (w : World) (S : Nat → Prop) (c : Nat) (s : Cur) (u : Bool) (h : Dd4 w S c s) : Calls Tryz.prog 49 #[.pointer (some ⟨c, 0, none⟩), .bool u] w (DListP S c w (someC true u ([], s))) := by
 obtain ⟨i0, hi, hz, hz1, hz2⟩ := info_parts info_int
 have HI0 := hide hi; have HZ := hide hz; have HZ1 := hide hz1; have HZ2 := hide hz2
 clear hi hz hz1 hz2
 have HNS := hide h.cur.nS
 obtain ⟨R, hR⟩ : ∃ R, w.heap.size = R := ⟨_, rfl⟩
 obtain ⟨S1, hS1⟩ : ∃ S1 : Nat → Prop, S1 = fun b => S b ∧ b < R := ⟨_, rfl⟩
 have HT1 := hide (show DA4 w w R c S1 s from by rw [hS1, ← hR]; exact DA4.start h)
 have HS1 := hide hS1
 obtain ⟨X, hX⟩ : ∃ X, someC true u ([], s) = X := ⟨_, rfl⟩
 rw [hX]
 have HX := hide hX
 have HRQ := hide hR
 clear h hS1 hX
 go_enter Tryz.func49, Tryz.ntmps49
 go_wp2_with fail
 go_loopw [5, 6] (fun v _ wr => ∃ (A : Option Addr) (n k : Nat) (l : List Int) (s' : Cur), v = .slice A n k ∧ l.length = n ∧ n ≤ 8 ∧ OwnL wr R 3 (fun _ => False) (.slice A n k) l ∧ DA4 w wr R c S1 s' ∧ someC true u (l, s') = X) (fun _ _ wr => leftM c wr)
 case atStart => exact ⟨none, 0, 0, [], s, rfl, rfl, by omega, OwnL.nil_ _ _ _ _, HT1.out, HX.out⟩
 case round =>
  obtain ⟨w1, rfl⟩ : ∃ V, V = wr := ⟨_, rfl⟩
  obtain ⟨A, n, k, l, s', rfl, hn, h8, ho, ht, hx⟩ := hrel
  have HO := hide ho; have HT := hide ht; have HXQ := hide hx; have HN := hide hn; have H8 := hide h8
  have HLE := hide ht.rd.cur.leftM4
  have HM := hide (dMore ht.rd.cur)
  have hcl := ht.cl
  have hen := ht.rd.cur.ends_
  clear ho ht hx hn h8 HT1
  have HFIN := hide (show endsC s' = true → DListP S c w X (.returned (.slice A n k)) w1 from fun he => by
   have HE : X = (l, s') := by rw [← HXQ.out]; exact someC_stop (by unfold someG; rw [if_pos he])
   rw [HE]
   exact ⟨A, n, k, rfl, HO.out.lower28 (by have := HRQ.out; omega), HT.out.rd.cur.moreS (fun b _ h => by rw [HS1.out] at h; exact h.1) HNS.out, HT.out.only⟩)
  cases hen with
  | no he hm =>
   rw [hm] at HM
   have HE := hide he
   clear he hm
   go_wp2_with (go_at_call 51; (with_reducible refine HM.out.mono ?_); rintro e w9 ⟨rfl, rfl⟩)
   go_ret
   exact HFIN.out HE.out
  | eol he hm n0 k0' b off k0 hn0 hb c0 =>
   rw [hm] at HM
   have HE := hide he
   clear he hm
   go_wp2_with (go_at_call 51; (with_reducible refine HM.out.mono ?_); rintro e w9 ⟨rfl, rfl⟩)
   go_ret
   exact HFIN.out HE.out
  | go he hm x n0 k0' b off k0 hn0 hb c0 hx4 =>
   rw [hm] at HM
   clear hm HFIN
   by_cases h9 : n = 8
   ·have hgo : someG true u (l, s') = some ([], failC 3 s') := by
     unfold someG
     rw [if_neg (by simp only; rw [he]; decide), if_pos (by show l.length = 8; have := HN.out; omega)]
     rfl
    have HE := hide (show X = ([], failC 3 s') from by
     rw [← HXQ.out, someC_go hgo]
     exact someC_stop (by unfold someG; rw [if_pos (ends_bad4 (fail_e4 (by decide)))]))
    have HF := hide (dFail HT.out.rd.cur 3)
    have hb8 : ((n : Int) == 8) = true := by simp; omega
    clear hgo he h9
    go_wp2_with (first | (go_at_call 51; (with_reducible refine HM.out.mono ?_); rintro e w9 ⟨rfl, rfl⟩) | (go_at_call 48; (with_reducible refine HF.out.mono ?_); rintro e V ⟨rfl, hat, hon⟩; have HTV := hide (HT.out.call hon hat); clear hat hon))
    go_ret
    rw [HE.out]
    exact ⟨none, 0, 0, rfl, OwnL.nil_ _ _ _ _, HTV.out.rd.cur.moreS (fun b _ h => by rw [HS1.out] at h; exact h.1) HNS.out, HTV.out.only⟩
   ·have hb8 : ((n : Int) == 8) = false := by simp; omega
    have HN8 := hide (show n < 8 from by have := H8.out; omega)
    have HL8 := hide (show ¬ l.length = 8 from by have := HN.out; omega)
    have HNI := hide (show n ≤ 8 from H8.out)
    clear h9
    obtain ⟨pv, hpv⟩ : ∃ v, vW (peekC s') = v := ⟨_, rfl⟩
    have HPV := hide hpv
    clear hpv
    go_wp2_with (go_at_call 51; (with_reducible refine HM.out.mono ?_); rintro e w9 ⟨rfl, rfl⟩)
    go_loopw [6] (fun v W => ∃ q : Nat, v = .int .i64 q ∧ q ≤ n ∧ (u = false → q = 0) ∧ OwnL W R 3 (fun _ => False) (.slice A n k) l ∧ DA4 w W R c S1 (if u = true ∧ (l.take q).contains pv = true then failC 7 s' else s')) (fun v _ => n - (intOf v).toNat)
    case atStart => exact ⟨0, rfl, Nat.zero_le _, fun _ => rfl, HO.out, by rw [if_neg (by simp)]; exact HT.out⟩
    case round =>
     obtain ⟨w2, rfl⟩ : ∃ V, V = wr := ⟨_, rfl⟩
     obtain ⟨q, rfl, hq, hu0, hoq, htq⟩ := hrel
     have HOQ := hide hoq; have HTQ := hide htq; have HU0 := hide hu0
     clear hoq htq hu0
     cases u with
     | false =>
      have hq0 : q = 0 := HU0.out rfl
      subst hq0
      have ht : (if false = true ∧ l.contains (vW (peekC s')) = true then failC 7 s' else s') = s' := if_neg (by simp)
      rw [if_neg (by simp)] at HTQ
      obtain ⟨t, htt⟩ : ∃ t, t = s' := ⟨_, rfl⟩
      rw [← htt] at HTQ
      have ht : (if false = true ∧ l.contains (vW (peekC s')) = true then failC 7 s' else s') = t := by rw [htt]; exact ht
      clear htt
      by_cases hqn : 0 < n
      ·have g0 : (0 : Int) < (n : Int) := by omega
       have hgo := someG_doc (u := false) he HL8.out ht
       have HGO := hide (show someC true false (l ++ [(varC t).1], (varC t).2) = X from by rw [← HXQ.out, someC_go hgo])
       have HDEC := hide (show leftC (varC t).2 < leftC s' from someG_dec _ _ hgo)
       have hvi := varC_in t
       have HVA := hide (dvariable_any HTQ.out.rd)
       generalize varC t = q4 at HGO HDEC HVA hvi
       obtain ⟨y, t2⟩ := q4
       simp only at HGO HDEC HVA hvi
       have HIY := hide (show InI y from by unfold InI; omega)
       clear hgo hvi ht he
       go_wp2_with (first | (go_at_call 104; (with_reducible refine HVA.out.mono ?_); rintro e V ⟨rfl, hat, hon⟩; have HTV := hide (HTQ.out.call hon hat); have HOV := hide (HOQ.out.keep hon.size (fun _ hf => hf.elim) fun g hg => hon.block g (HOQ.out.below_ g hg).2 (by have := (HOQ.out.below_ g hg).1; have := HTQ.out.o1; omega)); clear hat hon) | (at_builtin; refine wpList_push (α := Int) V [.int .i64 y] 3 rfl (.tmp 42) (.tmp 45) 22 rfl R 3 i0 _ 8 Tryz.underlying22 HI0.out HZ.out HZ1.out HZ2.out rfl (by decide) (fun _ => False) (fun _ => False) (.slice A n k) l y rfl HOV.out V.heap.size rfl rfl ⟨rfl, HIY.out⟩ (fun _ h => h) (fun _ _ h => h) (fun _ h => h.elim) (by have := HN.out; have := HN8.out; omega) (by have := HN.out; have := HN8.out; omega) (by have := HTV.out.rl; omega) ?_; intro v' W2 ho1 hgr h5; have HO1 := hide ho1; have HTG := hide ((HTV.out.alloc (.cells #[.int .i64 y] 3)).grown hgr (fun g e => by have := (HOV.out.below_ g e).1; omega)); clear ho1 hgr h5))
       obtain ⟨A', k', rfl⟩ := HO1.out.form
       have hl1 : (l ++ [y]).length = n + 1 := by rw [List.length_append, HN.out]; rfl
       rw [hl1] at HO1 ⊢
       have HLG := hide HTG.out.rd.cur.leftM4
       go_roundw
       case rel => exact ⟨A', n + 1, k', l ++ [y], t2, rfl, hl1, by have := HN8.out; omega, HO1.out, HTG.out, HGO.out⟩
       case measure => rw [HLG.out, HLE.out]; exact HDEC.out
      ·have g0 : ¬ (0 : Int) < (n : Int) := by omega
       have hgo := someG_doc (u := false) he HL8.out ht
       have HGO := hide (show someC true false (l ++ [(varC t).1], (varC t).2) = X from by rw [← HXQ.out, someC_go hgo])
       have HDEC := hide (show leftC (varC t).2 < leftC s' from someG_dec _ _ hgo)
       have hvi := varC_in t
       have HVA := hide (dvariable_any HTQ.out.rd)
       generalize varC t = q4 at HGO HDEC HVA hvi
       obtain ⟨y, t2⟩ := q4
       simp only at HGO HDEC HVA hvi
       have HIY := hide (show InI y from by unfold InI; omega)
       clear hgo hvi ht he
       go_wp2_with (first | (go_at_call 104; (with_reducible refine HVA.out.mono ?_); rintro e V ⟨rfl, hat, hon⟩; have HTV := hide (HTQ.out.call hon hat); have HOV := hide (HOQ.out.keep hon.size (fun _ hf => hf.elim) fun g hg => hon.block g (HOQ.out.below_ g hg).2 (by have := (HOQ.out.below_ g hg).1; have := HTQ.out.o1; omega)); clear hat hon) | (at_builtin; refine wpList_push (α := Int) V [.int .i64 y] 3 rfl (.tmp 42) (.tmp 45) 22 rfl R 3 i0 _ 8 Tryz.underlying22 HI0.out HZ.out HZ1.out HZ2.out rfl (by decide) (fun _ => False) (fun _ => False) (.slice A n k) l y rfl HOV.out V.heap.size rfl rfl ⟨rfl, HIY.out⟩ (fun _ h => h) (fun _ _ h => h) (fun _ h => h.elim) (by have := HN.out; have := HN8.out; omega) (by have := HN.out; have := HN8.out; omega) (by have := HTV.out.rl; omega) ?_; intro v' W2 ho1 hgr h5; have HO1 := hide ho1; have HTG := hide ((HTV.out.alloc (.cells #[.int .i64 y] 3)).grown hgr (fun g e => by have := (HOV.out.below_ g e).1; omega)); clear ho1 hgr h5))
       obtain ⟨A', k', rfl⟩ := HO1.out.form
       have hl1 : (l ++ [y]).length = n + 1 := by rw [List.length_append, HN.out]; rfl
       rw [hl1] at HO1 ⊢
       have HLG := hide HTG.out.rd.cur.leftM4
       go_roundw
       case rel => exact ⟨A', n + 1, k', l ++ [y], t2, rfl, hl1, by have := HN8.out; omega, HO1.out, HTG.out, HGO.out⟩
       case measure => rw [HLG.out, HLE.out]; exact HDEC.out
     | true =>
      by_cases hqn : q < n
      ·have g0 : (q : Int) < (n : Int) := by omega
       have hn8 := HN8.out
       obtain ⟨b2, off2, z, rfl, hb2, hz, hzi, d0⟩ := at_int (S := fun _ => True) (HOQ.out.sl fun _ _ _ => trivial) hqn
       have HZQ := hide hz
       clear hz
       obtain ⟨t, ht⟩ : ∃ t, (if true = true ∧ (l.take q).contains pv = true then failC 7 s' else s') = t := ⟨_, rfl⟩
       rw [ht] at HTQ
       have HTT := hide ht
       have HIV := hide (fun (W : World) (hW : Below w2.heap.size w2 W) => disVar_any (HTQ.out.rd.cur.below hW) (HTQ.out.rd.vars.below hW HTQ.out.rd.vars.v.sz))
       obtain ⟨r, hr⟩ : ∃ r, vW (peekC t) = r := ⟨_, rfl⟩
       rw [hr] at HIV
       have HNX := hide (show (if true = true ∧ (l.take (q + 1)).contains pv = true then failC 7 s' else s') = (if z = r then failC 7 t else t) from by
        have hc : (l.take (q + 1)).contains pv = ((l.take q).contains pv || z == pv) := by
         rw [List.take_add_one, HZQ.out]
         rw [Bool.eq_iff_iff]
         simp only [Option.toList_some, List.contains_eq_mem, List.mem_append, List.mem_singleton, decide_eq_true_eq, Bool.or_eq_true, beq_iff_eq]
         constructor
         ·rintro (h | h)
          ·exact .inl h
          ·exact .inr h.symm
         ·rintro (h | h)
          ·exact .inl h
          ·exact .inr h.symm
        rw [hc]
        by_cases hcc : (l.take q).contains pv = true
        ·rw [if_pos ⟨rfl, hcc⟩] at ht
         rw [if_pos ⟨rfl, by rw [hcc]; rfl⟩, ← ht]
         split
         ·exact (fail_bad4 (fail_e4 (by decide)) 7).symm
         ·rfl
        ·rw [if_neg (fun h => hcc h.2)] at ht
         subst ht
         rw [HPV.out] at hr
         subst hr
         have hcf : (l.take q).contains pv = false := by simpa using hcc
         rw [hcf]
         by_cases hzz : z = pv
         ·rw [if_pos hzz, if_pos ⟨rfl, by simp [hzz]⟩]
         ·rw [if_neg hzz, if_neg (by simp [hzz])])
       clear ht hr
       by_cases hzr : z = r
       ·have hbz : (z == r) = true := by simpa using hzr
        rw [if_pos hzr] at HNX
        have HF := hide (fun u1 : Ext => dFail (HTQ.out.rd.cur.ext u1) 7)
        clear hzr
        go_wp2_with fail
        refine wp_region_ext (by kernel_rfl) (by kernel_rfl) ?_
        repeat (any_goals (first | go_big_quiet_step (((go_at_call 103; with_reducible exact quiet_retx (HIV.out _ (by repeat (first | exact Below.refl _ _ | assumption | refine Below.alloc ?_ (by simp [size_ext]; try omega) _ | refine Below.ext ?_ (by simp [size_ext]; try omega) _ | refine Below.drew ?_ | refine Below.setCell ?_ (by simp [size_ext]; try omega) _)))))) | quiet_step (((go_at_call 103; with_reducible exact quiet_retx (HIV.out _ (by repeat (first | exact Below.refl _ _ | assumption | refine Below.alloc ?_ (by simp [size_ext]; try omega) _ | refine Below.ext ?_ (by simp [size_ext]; try omega) _ | refine Below.drew ?_ | refine Below.setCell ?_ (by simp [size_ext]; try omega) _))))))))
        refine wpQuiet_nil ?_
        rintro _ ⟨uq, rfl⟩
        go_wp2_with (go_at_call 48; (with_reducible refine (HF.out _).mono ?_); rintro e V ⟨rfl, hat, hon⟩; have HTV := hide ((HTQ.out.ext _).call hon hat); have HOV := hide ((HOQ.out.ext _).keep hon.size (fun _ hf => hf.elim) fun g hg => hon.block g ((HOQ.out.ext _).below_ g hg).2 (by have := (HOQ.out.below_ g hg).1; have := HTQ.out.o1; omega)); clear hat hon)
        go_roundw
        case rel => exact ⟨q + 1, by go_num, by omega, fun h => (by cases h), HOV.out, by rw [HNX.out]; exact HTV.out⟩
        case measure => simp [intOf]; omega
       ·have hbz : (z == r) = false := by simpa using hzr
        rw [if_neg hzr] at HNX
        clear hzr
        go_wp2_with fail
        refine wp_region_ext (by kernel_rfl) (by kernel_rfl) ?_
        repeat (any_goals (first | go_big_quiet_step (((go_at_call 103; with_reducible exact quiet_retx (HIV.out _ (by repeat (first | exact Below.refl _ _ | assumption | refine Below.alloc ?_ (by simp [size_ext]; try omega) _ | refine Below.ext ?_ (by simp [size_ext]; try omega) _ | refine Below.drew ?_ | refine Below.setCell ?_ (by simp [size_ext]; try omega) _)))))) | quiet_step (((go_at_call 103; with_reducible exact quiet_retx (HIV.out _ (by repeat (first | exact Below.refl _ _ | assumption | refine Below.alloc ?_ (by simp [size_ext]; try omega) _ | refine Below.ext ?_ (by simp [size_ext]; try omega) _ | refine Below.drew ?_ | refine Below.setCell ?_ (by simp [size_ext]; try omega) _))))))))
        refine wpQuiet_nil ?_
        rintro _ ⟨uq, rfl⟩
        go_wp2_with fail
        go_roundw
        case rel => exact ⟨q + 1, by go_num, by omega, fun h => (by cases h), HOQ.out.ext _, by rw [HNX.out]; exact HTQ.out.ext _⟩
        case measure => simp [intOf]; omega
      ·have g0 : ¬ (q : Int) < (n : Int) := by omega
       rw [show l.take q = l from List.take_of_length_le (by have := HN.out; omega), ← HPV.out] at HTQ
       obtain ⟨t, ht⟩ : ∃ t, (if true = true ∧ l.contains (vW (peekC s')) = true then failC 7 s' else s') = t := ⟨_, rfl⟩
       rw [ht] at HTQ
       have hgo := someG_doc (u := true) he HL8.out ht
       have HGO := hide (show someC true true (l ++ [(varC t).1], (varC t).2) = X from by rw [← HXQ.out, someC_go hgo])
       have HDEC := hide (show leftC (varC t).2 < leftC s' from someG_dec _ _ hgo)
       have hvi := varC_in t
       have HVA := hide (dvariable_any HTQ.out.rd)
       generalize varC t = q4 at HGO HDEC HVA hvi
       obtain ⟨y, t2⟩ := q4
       simp only at HGO HDEC HVA hvi
       have HIY := hide (show InI y from by unfold InI; omega)
       clear hgo hvi ht he
       go_wp2_with (first | (go_at_call 104; (with_reducible refine HVA.out.mono ?_); rintro e V ⟨rfl, hat, hon⟩; have HTV := hide (HTQ.out.call hon hat); have HOV := hide (HOQ.out.keep hon.size (fun _ hf => hf.elim) fun g hg => hon.block g (HOQ.out.below_ g hg).2 (by have := (HOQ.out.below_ g hg).1; have := HTQ.out.o1; omega)); clear hat hon) | (at_builtin; refine wpList_push (α := Int) V [.int .i64 y] 3 rfl (.tmp 42) (.tmp 45) 22 rfl R 3 i0 _ 8 Tryz.underlying22 HI0.out HZ.out HZ1.out HZ2.out rfl (by decide) (fun _ => False) (fun _ => False) (.slice A n k) l y rfl HOV.out V.heap.size rfl rfl ⟨rfl, HIY.out⟩ (fun _ h => h) (fun _ _ h => h) (fun _ h => h.elim) (by have := HN.out; have := HN8.out; omega) (by have := HN.out; have := HN8.out; omega) (by have := HTV.out.rl; omega) ?_; intro v' W2 ho1 hgr h5; have HO1 := hide ho1; have HTG := hide ((HTV.out.alloc (.cells #[.int .i64 y] 3)).grown hgr (fun g e => by have := (HOV.out.below_ g e).1; omega)); clear ho1 hgr h5))
       obtain ⟨A', k', rfl⟩ := HO1.out.form
       have hl1 : (l ++ [y]).length = n + 1 := by rw [List.length_append, HN.out]; rfl
       rw [hl1] at HO1 ⊢
       have HLG := hide HTG.out.rd.cur.leftM4
       go_roundw
       case rel => exact ⟨A', n + 1, k', l ++ [y], t2, rfl, hl1, by have := HN8.out; omega, HO1.out, HTG.out, HGO.out⟩
       case measure => rw [HLG.out, HLE.out]; exact HDEC.out
end Go.Proofs.YtljglhaeonbfoaaGreatDoor
