/- law04: plain: a variable's number as the program reads it: a 'v' cut off, Atoi, Itoa. law04: plain: a cursor whose words are few and short; what is read of it is so too. law04: walks: the variable that is next. law04: walks: a variable is read. law04: walks: a number that an instruction has; a block's. -/
import Derived.Test.YtljglhaeonbfoaaGreatDoorG19
import Derived.Test.YtljglhaeonbfoaaGreatDoorG17
import Derived.Test.YtljglhaeonbfoaaGreatDoorG16
import Derived.Test.YtljglhaeonbfoaaGreatDoorG10
set_option linter.unusedSimpArgs false
set_option linter.unusedVariables false
namespace Go.Proofs.YtljglhaeonbfoaaGreatDoor
def cutV (s : ByteArray) : ByteArray := ⟨(Lib.trimPrefix s.data.toList [118]).toArray⟩
theorem keyV_itoa {n : Int} (h : 0 ≤ n) : keyB 118 n.toNat = ⟨#[118]⟩ ++ itoaB n := by
 apply bytes_ext
 rw [ByteArray.data_append, Array.toList_append]
 unfold keyB itoaB Lib.itoa
 rw [if_neg (by omega)]
 simp
theorem vW_code (s : ByteArray) : vW s = if Lib.hasPrefix s.data.toList [118] = true ∧ numOk (cutV s) = true ∧ 1 ≤ numN (cutV s) ∧ numN (cutV s) ≤ 200 ∧ itoaB (numN (cutV s)) = cutV s then numN (cutV s) else 0 := by
 by_cases hv : vW s = 0
 ·rw [hv]
  by_cases hc : Lib.hasPrefix s.data.toList [118] = true ∧ numOk (cutV s) = true ∧ 1 ≤ numN (cutV s) ∧ numN (cutV s) ≤ 200 ∧ itoaB (numN (cutV s)) = cutV s
  ·exfalso
   obtain ⟨h1, h2, h3, h4, h5⟩ := hc
   have hs : s = ⟨#[118]⟩ ++ cutV s := by
    apply bytes_ext
    rw [ByteArray.data_append, Array.toList_append]
    unfold cutV Lib.trimPrefix
    rw [if_pos h1]
    unfold Lib.hasPrefix at h1
    rw [List.isPrefixOf_iff_prefix] at h1
    obtain ⟨t, ht⟩ := h1
    rw [← ht]
    simp
   rw [← h5, ← keyV_itoa (by omega)] at hs
   rw [hs, vW_key (by omega)] at hv
   omega
  ·rw [if_neg hc]
 ·obtain ⟨n, h1, h2, hs, hn⟩ := vW_inv hv
  have hp : Lib.hasPrefix s.data.toList [118] = true := by
   unfold Lib.hasPrefix
   rw [List.isPrefixOf_iff_prefix, hs]
   exact ⟨Lib.decDigits n, by unfold keyB; simp⟩
  have hd : cutV s = itoaB (n : Int) := by
   apply bytes_ext
   unfold cutV Lib.trimPrefix
   rw [if_pos hp, hs]
   unfold keyB itoaB Lib.itoa
   rw [if_neg (by omega)]
   simp
  obtain ⟨t, _, _, hb, hN⟩ := itoa_num (n : Int) (by omega) (by omega)
  have hok : numOk (itoaB (n : Int)) = true := by
   unfold numBad at hb
   unfold numOk
   split at hb
   ·rename_i v hv; rw [hv]
   ·cases hb
  rw [hd, hN, if_pos ⟨hp, hok, by omega, by omega, rfl⟩, hn]
end Go.Proofs.YtljglhaeonbfoaaGreatDoor
namespace Go.Proofs.YtljglhaeonbfoaaGreatDoor
structure Wd (s : Cur) : Prop where
 n : s.ws.length ≤ 1099511627770
 t : ∀ x ∈ s.ws, x.text.size ≤ 1099511627770
def SufX (a b : Cur) : Prop := b.ws <:+ a.ws
theorem SufX.refl (a : Cur) : SufX a a := List.suffix_rfl
theorem SufX.trans {a b c : Cur} (h : SufX a b) (g : SufX b c) : SufX a c := List.IsSuffix.trans g h
theorem Wd.suf {a b : Cur} (h : Wd a) (g : SufX a b) : Wd b := ⟨Nat.le_trans g.length_le h.n, fun x hx => h.t x (g.subset hx)⟩
theorem Wd.alive {a : Cur} (h : Wd a) : aliveC a ≤ 1099511627771 := by
 have := h.n
 unfold aliveC leftC
 split <;> omega
theorem sfx_pop (s : Cur) : SufX s (popC s) := List.tail_suffix _
theorem sfx_fail (x : Int) (s : Cur) : SufX s (failC x s) := by
 unfold failC
 split
 ·exact SufX.refl s
 ·split <;> exact SufX.refl s
theorem sfx_name (s : Cur) : SufX s (nameC s).2 := by
 unfold nameC
 split
 ·split
  ·exact sfx_pop s
  ·exact sfx_fail _ s
 ·exact sfx_fail _ s
theorem sfx_num (lo hi : Int) (s : Cur) : SufX s (numC lo hi s).2 := by
 unfold numC
 split
 ·split
  ·split
   ·exact sfx_fail _ s
   ·exact sfx_pop s
  ·exact sfx_fail _ s
 ·exact sfx_fail _ s
theorem sfx_mark : ∀ (l : List ByteArray) (s : Cur), SufX s (markC l s)
 | [], s => SufX.refl s
 | t :: l, s => by
  unfold markC
  refine SufX.trans ?_ (sfx_mark l _)
  split
  ·exact sfx_pop s
  ·exact sfx_fail _ s
theorem sfx_end (s : Cur) : SufX s (endC s) := by
 unfold endC
 split
 ·split
  ·exact sfx_pop s
  ·exact sfx_fail _ s
 ·exact SufX.refl s
theorem sfx_kind : ∀ (l : List ByteArray) (k : Nat) (s : Cur), SufX s (kindC l k s).2
 | [], _, s => SufX.refl s
 | t :: l, k, s => by
  unfold kindC
  split
  ·exact sfx_pop s
  ·exact sfx_kind l (k + 1) s
theorem sfx_over (b : Bool) (s : Cur) : SufX s (overC b s) := by
 unfold overC
 split
 ·exact sfx_pop s
 ·exact SufX.refl s
theorem sfx_var (s : Cur) : SufX s (varC s).2 := by
 unfold varC
 split
 ·exact sfx_fail _ s
 ·exact sfx_name s
theorem sfx_someG {q u : Bool} {x y : List Int × Cur} (h : someG q u x = some y) : SufX x.2 y.2 := by
 unfold someG at h
 split at h
 ·cases h
 ·split at h
  ·injection h with h; subst h; exact sfx_fail _ _
  ·split at h
   ·injection h with h; subst h; exact sfx_fail _ _
   ·injection h with h; subst h; exact sfx_var x.2
theorem sfx_loop {α : Type} {g : α × Cur → Option (α × Cur)} (hg : ∀ x y, g x = some y → SufX x.2 y.2) : ∀ (f : Nat) (x : α × Cur), SufX x.2 (loopC g f x).2
 | 0, x => SufX.refl _
 | f + 1, x => by
  cases h : g x with
  | none => rw [loop_none h]; exact SufX.refl _
  | some y => rw [loop_some h]; exact (hg x y h).trans (sfx_loop hg f y)
theorem sfx_some (q u : Bool) (x : List Int × Cur) : SufX x.2 (someC q u x).2 := sfx_loop (fun _ _ h => sfx_someG h) _ x
theorem sfx_ins (q : Bool) (o dst : Int) (s : Cur) : SufX s (insC q o dst s).2 := by
 unfold insC
 split
 ·exact sfx_num _ _ s
 ·split
  ·exact (sfx_num _ _ s).trans (sfx_some _ _ _)
  ·simp only
   have h2 : ∀ t : Cur, SufX t (if o = 11 then immC t else (0, t)).2 := fun t => by
    split
    ·exact sfx_num _ _ _
    ·exact SufX.refl _
   have h3 : ∀ t : Cur, SufX t (if o ≤ 10 then varC t else (0, t)).2 := fun t => by
    split
    ·exact sfx_var t
    ·exact SufX.refl _
   exact ((sfx_var s).trans (h2 _)).trans (h3 _)
theorem sfx_op (s : Cur) : SufX s (opC s).2 := by
 unfold opC
 simp only
 split
 ·exact sfx_kind _ _ s
 ·split
  ·exact sfx_pop s
  ·split
   ·exact sfx_pop s
   ·split
    ·exact sfx_pop s
    ·exact SufX.refl _
theorem sfx_one (q : Bool) (s : Cur) : SufX s (oneC q s).2 := by
 unfold oneC
 split
 ·exact sfx_pop s
 split
 ·refine (sfx_pop s).trans ?_
  simp only [termL]
  split
  ·exact SufX.refl _
  ·exact sfx_var _
 split
 ·exact (sfx_pop s).trans (sfx_num _ _ _)
 split
 ·exact (sfx_pop s).trans ((sfx_var _).trans ((sfx_num _ _ _).trans (sfx_var _)))
 split
 ·exact (sfx_pop s).trans (sfx_ins _ _ _ _)
 ·simp only
  split
  ·exact (sfx_var s).trans ((sfx_pop _).trans ((sfx_num _ _ _).trans (sfx_num _ _ _)))
  ·exact (sfx_var s).trans ((sfx_mark _ _).trans ((sfx_op _).trans (sfx_ins _ _ _ _)))
theorem sfx_blkG {q : Bool} {x y : (Block × Bool) × Cur} (h : blkG q x = some y) : SufX x.2 y.2 := by
 unfold blkG at h
 split at h
 ·cases h
 ·have h1 := sfx_one q x.2
  split at h
  ·injection h with h; subst h
   exact h1.trans (sfx_end _)
  ·injection h with h; subst h
   refine h1.trans (SufX.trans ?_ (sfx_end _))
   split
   ·exact sfx_fail _ _
   ·exact SufX.refl _
theorem sfx_key (t : ByteArray) (s : Cur) : SufX s (keyC t s) := by
 unfold keyC
 split
 ·exact sfx_pop s
 ·exact sfx_fail _ s
theorem sfx_head (n : Nat) (s : Cur) : SufX s (headB n s) := by
 unfold headB
 refine SufX.trans ?_ ((sfx_key tBlock _).trans ((sfx_num _ _ _).trans (sfx_end _)))
 split
 ·exact sfx_fail _ s
 ·exact SufX.refl s
theorem sfx_whole (q : Bool) (n : Nat) (s : Cur) : SufX s (wholeC q n s).2 := (sfx_head n s).trans (sfx_loop (fun _ _ h => sfx_blkG h) _ _)
theorem totL_mem : ∀ {xs : List Word} {x : Word}, x ∈ xs → x.text.size ≤ totL xs
 | y :: l, x, h => by
  rcases List.mem_cons.1 h with rfl | h
  ·simp only [totL]; omega
  ·have := totL_mem h; simp only [totL]; omega
theorem wd_over (s : ByteArray) (hs : s.size ≤ 262144) : Wd (overT s) := by
 have h0 : (readR s).words.length ≤ 1099511627770 ∧ ∀ x ∈ (readR s).words, x.text.size ≤ 1099511627770 := by
  by_cases he : (readR s).err = 0
  ·obtain ⟨ws, _, hR, _, _, ht⟩ := read_lexes he
   rw [hR]
   have := totL_len2 ws
   refine ⟨?_, fun x hx => ?_⟩
   ·show ws.length ≤ _; omega
   ·have := totL_mem (show x ∈ ws from hx); omega
  ·rw [(read_err s he).1]; simp
 unfold overT
 split
 ·exact ⟨Nat.zero_le _, fun _ h => by cases h⟩
 ·have h2 := compK_len (readR s).words true
  have h3 : ∀ l : List Word, (dropEnd l).length ≤ l.length ∧ ∀ x ∈ dropEnd l, x ∈ l := fun l => by
   unfold dropEnd
   split
   ·split
    ·exact ⟨by simp, fun x hx => (List.dropLast_sublist l).subset hx⟩
    ·exact ⟨Nat.le_refl _, fun _ h => h⟩
   ·exact ⟨Nat.le_refl _, fun _ h => h⟩
  obtain ⟨h4, h5⟩ := h3 (compK true (readR s).words)
  exact ⟨by simp only; omega, fun x hx => h0.2 x (compK_mem _ _ x (h5 x hx))⟩
theorem Wd.peek {s : Cur} (h : Wd s) : (peekC s).size ≤ 1099511627770 := by
 unfold peekC headC
 split
 ·rename_i w hw
  split at hw
  ·split
   ·exact h.t w (List.mem_of_mem_head? hw)
   ·exact Nat.zero_le _
  ·cases hw
 ·exact Nat.zero_le _
end Go.Proofs.YtljglhaeonbfoaaGreatDoor
namespace Go.Proofs.YtljglhaeonbfoaaGreatDoor
open Go.RowKit
section
variable {w : World} {S : Nat → Prop} {c : Nat} {s : Cur}
theorem cutV_sz (s : ByteArray) : (cutV s).size ≤ s.size := by
 unfold cutV Lib.trimPrefix
 split
 ·show (List.drop _ s.data.toList).toArray.size ≤ s.data.size
  simp
 ·exact Nat.le_refl _
abbrev rd4 (c : Nat) : Value := .agg #[.pointer (some ⟨c, 0, none⟩)]
theorem cutp_any (t : ByteArray) (w : World) : Calls Tryz.prog 136 #[.string t, .string ⟨#[118]⟩] w (Ret (.tuple #[.string (cutV t), .bool (Lib.hasPrefix t.data.toList [118])]) w) := by
 refine (Tryz.strings_CutPrefix t ⟨#[118]⟩ w).mono ?_
 rintro e w' ⟨rfl, rfl⟩
 exact ⟨rfl, rfl⟩
theorem extT4 {a b c : World} (h : ∃ u : Ext, b = a.ext u) (g : ∃ u : Ext, c = b.ext u) : ∃ u : Ext, c = a.ext u := by
 obtain ⟨u, rfl⟩ := h
 obtain ⟨v, rfl⟩ := g
 exact ext_ext _ _ _
set_option maxRecDepth 100000 in
set_option maxHeartbeats 8000000 in
theorem peeked_any (h : CurAt w S c s) (hv : VarsP w) (hd : Wd s) : Calls Tryz.prog 94 #[rd4 c] w (RetX (.int .i64 (vW (peekC s))) w) := by
 have hz : (cutV (peekC s)).size ≤ 1099511627770 := Nat.le_trans (cutV_sz _) hd.peek
 clear hd
 obtain ⟨W1, hW1⟩ : ∃ W1, w.alloc (.cells #[.pointer (some ⟨c, 0, none⟩)] 77) = W1 := ⟨_, rfl⟩
 have h1 : CurAt W1 S c s := by rw [← hW1]; exact h.alloc _
 have hv1 : VarsP W1 := by rw [← hW1]; exact hv.alloc _
 have HX := hide (show ∃ u : Ext, W1 = w.ext u by rw [← hW1]; exact ext_alloc _ _)
 have k0 : W1.cell? ⟨w.heap.size, 0, none⟩ = some (.pointer (some ⟨c, 0, none⟩)) := by rw [← hW1]; exact cell_of_row _ _ _ _ _ (0, 0) (heap_alloc_new w _)
 have hsz : w.heap.size < W1.heap.size := by rw [← hW1]; simp
 have HP := hide (cPeek h1)
 have hc := vW_code (peekC s)
 generalize peekC s = t at HP hc hz ⊢
 have HC := hide (cutp_any t W1)
 generalize Lib.hasPrefix t.data.toList [118] = is at HC hc
 generalize cutV t = d at HC hc hz
 generalize vW t = r at hc ⊢
 clear h h1 hv
 cases ho : numOk d with
 | false =>
  have HA := hide (atoi_no d W1 (by omega) hv1.v ho)
  have hr : r = 0 := by rw [hc, if_neg]; rintro ⟨_, h2, _⟩; rw [ho] at h2; cases h2
  subst hr
  clear hc ho
  generalize numN d = n at HA
  cases is
  all_goals
   go_enter Tryz.func94, Tryz.ntmps94
   go_wp2_with (first | (go_at_call 137; (with_reducible refine HP.out.mono ?_); rintro e w2 ⟨rfl, rfl⟩) | (go_at_call 136; (with_reducible refine HC.out.mono ?_); rintro e w2 ⟨rfl, rfl⟩) | (go_at_call 138; (with_reducible refine HA.out.mono ?_); rintro e w2 ⟨N, rfl, u, rfl⟩))
   go_ret
   exact ⟨rfl, extT4 HX.out ⟨u, rfl⟩⟩
 | true =>
  have HA := hide (atoi_ok d W1 (by omega) ho)
  have hn : InI (numN d) := numN_in d
  generalize numN d = n at HA hc hn
  have HI := hide (fun u : Ext => itoaP_any n hn (W1.ext u) (hv1.ext u))
  have HO := hide ho
  clear ho hn hv1
  have HC0 := hide hc
  clear hc
  cases is with
  | false =>
   have hr : r = 0 := by rw [HC0.out, if_neg]; rintro ⟨h2, _⟩; cases h2
   subst hr
   clear HC0
   go_enter Tryz.func94, Tryz.ntmps94
   go_wp2_with (first | (go_at_call 137; (with_reducible refine HP.out.mono ?_); rintro e w2 ⟨rfl, rfl⟩) | (go_at_call 136; (with_reducible refine HC.out.mono ?_); rintro e w2 ⟨rfl, rfl⟩) | (go_at_call 138; (with_reducible refine HA.out.mono ?_); rintro e w2 ⟨rfl, u, rfl⟩))
   go_ret
   exact ⟨rfl, extT4 HX.out ⟨u, rfl⟩⟩
  | true =>
   by_cases h1 : n < 1
   ·have hr : r = 0 := by rw [HC0.out, if_neg]; rintro ⟨_, _, h2, _⟩; omega
    subst hr
    clear HC0
    go_enter Tryz.func94, Tryz.ntmps94
    go_wp2_with (first | (go_at_call 137; (with_reducible refine HP.out.mono ?_); rintro e w2 ⟨rfl, rfl⟩) | (go_at_call 136; (with_reducible refine HC.out.mono ?_); rintro e w2 ⟨rfl, rfl⟩) | (go_at_call 138; (with_reducible refine HA.out.mono ?_); rintro e w2 ⟨rfl, u, rfl⟩))
    go_ret
    exact ⟨rfl, extT4 HX.out ⟨u, rfl⟩⟩
   ·by_cases h2 : 200 < n
    ·have hr : r = 0 := by rw [HC0.out, if_neg]; rintro ⟨_, _, _, h2, _⟩; omega
     subst hr
     clear HC0
     go_enter Tryz.func94, Tryz.ntmps94
     go_wp2_with (first | (go_at_call 137; (with_reducible refine HP.out.mono ?_); rintro e w2 ⟨rfl, rfl⟩) | (go_at_call 136; (with_reducible refine HC.out.mono ?_); rintro e w2 ⟨rfl, rfl⟩) | (go_at_call 138; (with_reducible refine HA.out.mono ?_); rintro e w2 ⟨rfl, u, rfl⟩))
     go_ret
     exact ⟨rfl, extT4 HX.out ⟨u, rfl⟩⟩
    ·by_cases h3 : itoaB n = d
     ·have hr : r = n := by rw [HC0.out, if_pos ⟨rfl, HO.out, by omega, by omega, h3⟩]
      subst hr
      clear HC0
      subst h3
      have b1 : decide (r < 1) = false := decide_eq_false h1
      have b2 : decide (200 < r) = false := decide_eq_false h2
      have b3 : decide (r > 200) = false := decide_eq_false h2
      go_enter Tryz.func94, Tryz.ntmps94
      go_wp2_with (first | (go_at_call 137; (with_reducible refine HP.out.mono ?_); rintro e w2 ⟨rfl, rfl⟩) | (go_at_call 136; (with_reducible refine HC.out.mono ?_); rintro e w2 ⟨rfl, rfl⟩) | (go_at_call 138; (with_reducible refine HA.out.mono ?_); rintro e w2 ⟨rfl, u, rfl⟩) | (go_at_call 33; (with_reducible refine (HI.out _).mono ?_); rintro e w2 ⟨rfl, v, rfl⟩))
      go_ret
      exact ⟨rfl, extT4 HX.out (ext_ext _ _ _)⟩
     ·have hr : r = 0 := by rw [HC0.out, if_neg]; rintro ⟨_, _, _, _, h⟩; exact h3 h
      subst hr
      clear HC0
      have b1 : decide (n < 1) = false := decide_eq_false h1
      have b2 : decide (200 < n) = false := decide_eq_false h2
      have b3 : decide (n > 200) = false := decide_eq_false h2
      have b4 : ((itoaB n).toList == d.toList) = false := by
       rw [ByteArray.toList_eq, ByteArray.toList_eq]
       simp only [beq_eq_false_iff_ne, ne_eq]
       exact fun e => h3 (bytes_ext e)
      have b5 : (!((itoaB n).toList == d.toList)) = true := by rw [b4]; rfl
      go_enter Tryz.func94, Tryz.ntmps94
      go_wp2_with (first | (go_at_call 137; (with_reducible refine HP.out.mono ?_); rintro e w2 ⟨rfl, rfl⟩) | (go_at_call 136; (with_reducible refine HC.out.mono ?_); rintro e w2 ⟨rfl, rfl⟩) | (go_at_call 138; (with_reducible refine HA.out.mono ?_); rintro e w2 ⟨rfl, u, rfl⟩) | (go_at_call 33; (with_reducible refine (HI.out _).mono ?_); rintro e w2 ⟨rfl, v, rfl⟩))
      go_ret
      exact ⟨rfl, extT4 HX.out (ext_ext _ _ _)⟩
end
end Go.Proofs.YtljglhaeonbfoaaGreatDoor
namespace Go.Proofs.YtljglhaeonbfoaaGreatDoor
open Go.RowKit
section
variable {w : World} {S : Nat → Prop} {c : Nat} {s : Cur}
set_option maxRecDepth 100000 in
set_option maxHeartbeats 8000000 in
theorem variable_any (h : CurAt w S c s) (hv : VarsP w) (hd : Wd s) : Calls Tryz.prog 95 #[rd4 c] w (CurP S c w (varC s).2 (.int .i64 (varC s).1)) := by
 obtain ⟨W1, hW1⟩ : ∃ W1, w.alloc (.cells #[.pointer (some ⟨c, 0, none⟩)] 77) = W1 := ⟨_, rfl⟩
 have h1 : CurAt W1 S c s := by rw [← hW1]; exact h.alloc _
 have hv1 : VarsP W1 := by rw [← hW1]; exact hv.alloc _
 have HO1 := hide (show Only c w W1 by rw [← hW1]; exact (Only.refl c w).alloc _)
 have k0 : W1.cell? ⟨w.heap.size, 0, none⟩ = some (.pointer (some ⟨c, 0, none⟩)) := by rw [← hW1]; exact cell_of_row _ _ _ _ _ (0, 0) (heap_alloc_new w _)
 have hsz : w.heap.size < W1.heap.size := by rw [← hW1]; simp
 have HP := hide (peeked_any h1 hv1 hd)
 have HF := hide (fun u : Ext => cFail (h1.ext u) 7)
 have HN := hide (fun u : Ext => cName (h1.ext u))
 have HE := hide (fun u : Ext => (show Only c W1 (W1.ext u) from (Only.refl c W1).ext u))
 have he : varC s = if vW (peekC s) = 0 then (0, failC 7 s) else (vW (peekC s), (nameC s).2) := rfl
 rw [he]
 clear he hd hv hv1 h h1
 generalize vW (peekC s) = v at HP ⊢
 by_cases h0 : v = 0
 ·subst h0
  rw [if_pos rfl]
  go_enter Tryz.func95, Tryz.ntmps95
  go_wp2_with (first | (go_at_call 94; (with_reducible refine HP.out.mono ?_); rintro e w2 ⟨rfl, u, rfl⟩) | (go_at_call 40; (with_reducible refine (HF.out _).mono ?_); rintro e w2 ⟨rfl, hat, hon⟩))
  go_ret
  exact ⟨rfl, hat, (HO1.out.trans (HE.out _)).trans hon⟩
 ·rw [if_neg h0]
  go_enter Tryz.func95, Tryz.ntmps95
  go_wp2_with (first | (go_at_call 94; (with_reducible refine HP.out.mono ?_); rintro e w2 ⟨rfl, u, rfl⟩) | (go_at_call 139; (with_reducible refine (HN.out _).mono ?_); rintro e w2 ⟨rfl, hat, hon⟩))
  go_ret
  exact ⟨rfl, hat, (HO1.out.trans (HE.out _)).trans hon⟩
end
end Go.Proofs.YtljglhaeonbfoaaGreatDoor
namespace Go.Proofs.YtljglhaeonbfoaaGreatDoor
open Go.RowKit
section
variable {w : World} {S : Nat → Prop} {c : Nat} {s : Cur}
set_option maxRecDepth 100000 in
set_option maxHeartbeats 8000000 in
theorem imm_any (h : CurAt w S c s) : Calls Tryz.prog 179 #[rd4 c] w (CurP S c w (immC s).2 (.int .i64 (immC s).1)) := by
 obtain ⟨W1, hW1⟩ : ∃ W1, w.alloc (.cells #[.pointer (some ⟨c, 0, none⟩)] 77) = W1 := ⟨_, rfl⟩
 have h1 : CurAt W1 S c s := by rw [← hW1]; exact h.alloc _
 have HO1 := hide (show Only c w W1 by rw [← hW1]; exact (Only.refl c w).alloc _)
 have k0 : W1.cell? ⟨w.heap.size, 0, none⟩ = some (.pointer (some ⟨c, 0, none⟩)) := by rw [← hW1]; exact cell_of_row _ _ _ _ _ (0, 0) (heap_alloc_new w _)
 have hsz : w.heap.size < W1.heap.size := by rw [← hW1]; simp
 have HN := hide (cNum h1 (-1099511627776) 1099511627776)
 clear h h1
 go_enter Tryz.func179, Tryz.ntmps179
 go_wp2_with (go_at_call 97; (with_reducible refine HN.out.mono ?_); rintro e w2 ⟨rfl, hat, hon⟩)
 go_ret
 exact ⟨rfl, hat, HO1.out.trans hon⟩
set_option maxRecDepth 100000 in
set_option maxHeartbeats 8000000 in
theorem blockN_any (h : CurAt w S c s) : Calls Tryz.prog 141 #[rd4 c] w (CurP S c w (numC 0 63 s).2 (.int .i64 (numC 0 63 s).1)) := by
 obtain ⟨W1, hW1⟩ : ∃ W1, w.alloc (.cells #[.pointer (some ⟨c, 0, none⟩)] 77) = W1 := ⟨_, rfl⟩
 have h1 : CurAt W1 S c s := by rw [← hW1]; exact h.alloc _
 have HO1 := hide (show Only c w W1 by rw [← hW1]; exact (Only.refl c w).alloc _)
 have k0 : W1.cell? ⟨w.heap.size, 0, none⟩ = some (.pointer (some ⟨c, 0, none⟩)) := by rw [← hW1]; exact cell_of_row _ _ _ _ _ (0, 0) (heap_alloc_new w _)
 have hsz : w.heap.size < W1.heap.size := by rw [← hW1]; simp
 have HN := hide (cNum h1 0 63)
 clear h h1
 go_enter Tryz.func141, Tryz.ntmps141
 go_wp2_with (go_at_call 97; (with_reducible refine HN.out.mono ?_); rintro e w2 ⟨rfl, hat, hon⟩)
 go_ret
 exact ⟨rfl, hat, HO1.out.trans hon⟩
end
end Go.Proofs.YtljglhaeonbfoaaGreatDoor
