/- law04: plain: a variable's number as the program reads it: a 'v' cut off, Atoi, Itoa. law04: plain: a cursor whose words are few and short; what is read of it is so too. -/
import Derived.Test.YtljglhaeonbfoaaGreatDoorG19
import Derived.Test.YtljglhaeonbfoaaGreatDoorG17
set_option linter.unusedSimpArgs false
set_option linter.unusedVariables false
namespace Go.Proofs.YtljglhaeonbfoaaGreatDoor
def cutV (s : ByteArray) : ByteArray := ⟨(Lib.trimPrefix s.data.toList [118]).toArray⟩
theorem keyV_itoa {n : Int} (h : 0 ≤ n) : keyB 118 n.toNat = ⟨#[118]⟩ ++ itoaB n := by
 apply bytes_ext
 rw [ByteArray.data_append, Array.toList_append]
 unfold keyB itoaB Lib.itoa
 rw [if_neg (by omega)]
 simp
theorem vW_code (s : ByteArray) : vW s = if Lib.hasPrefix s.data.toList [118] = true ∧ numOk (cutV s) = true ∧ 1 ≤ numN (cutV s) ∧ numN (cutV s) ≤ 200 ∧ itoaB (numN (cutV s)) = cutV s then numN (cutV s) else 0 := by
 by_cases hv : vW s = 0
 ·rw [hv]
  by_cases hc : Lib.hasPrefix s.data.toList [118] = true ∧ numOk (cutV s) = true ∧ 1 ≤ numN (cutV s) ∧ numN (cutV s) ≤ 200 ∧ itoaB (numN (cutV s)) = cutV s
  ·exfalso
   obtain ⟨h1, h2, h3, h4, h5⟩ := hc
   have hs : s = ⟨#[118]⟩ ++ cutV s := by
    apply bytes_ext
    rw [ByteArray.data_append, Array.toList_append]
    unfold cutV Lib.trimPrefix
    rw [if_pos h1]
    unfold Lib.hasPrefix at h1
    rw [List.isPrefixOf_iff_prefix] at h1
    obtain ⟨t, ht⟩ := h1
    rw [← ht]
    simp
   rw [← h5, ← keyV_itoa (by omega)] at hs
   rw [hs, vW_key (by omega)] at hv
   omega
  ·rw [if_neg hc]
 ·obtain ⟨n, h1, h2, hs, hn⟩ := vW_inv hv
  have hp : Lib.hasPrefix s.data.toList [118] = true := by
   unfold Lib.hasPrefix
   rw [List.isPrefixOf_iff_prefix, hs]
   exact ⟨Lib.decDigits n, by unfold keyB; simp⟩
  have hd : cutV s = itoaB (n : Int) := by
   apply bytes_ext
   unfold cutV Lib.trimPrefix
   rw [if_pos hp, hs]
   unfold keyB itoaB Lib.itoa
   rw [if_neg (by omega)]
   simp
  obtain ⟨t, _, _, hb, hN⟩ := itoa_num (n : Int) (by omega) (by omega)
  have hok : numOk (itoaB (n : Int)) = true := by
   unfold numBad at hb
   unfold numOk
   split at hb
   ·rename_i v hv; rw [hv]
   ·cases hb
  rw [hd, hN, if_pos ⟨hp, hok, by omega, by omega, rfl⟩, hn]
end Go.Proofs.YtljglhaeonbfoaaGreatDoor
namespace Go.Proofs.YtljglhaeonbfoaaGreatDoor
structure Wd (s : Cur) : Prop where
 n : s.ws.length ≤ 1099511627770
 t : ∀ x ∈ s.ws, x.text.size ≤ 1099511627770
def SufX (a b : Cur) : Prop := b.ws <:+ a.ws
theorem SufX.refl (a : Cur) : SufX a a := List.suffix_rfl
theorem SufX.trans {a b c : Cur} (h : SufX a b) (g : SufX b c) : SufX a c := List.IsSuffix.trans g h
theorem Wd.suf {a b : Cur} (h : Wd a) (g : SufX a b) : Wd b := ⟨Nat.le_trans g.length_le h.n, fun x hx => h.t x (g.subset hx)⟩
theorem Wd.alive {a : Cur} (h : Wd a) : aliveC a ≤ 1099511627771 := by
 have := h.n
 unfold aliveC leftC
 split <;> omega
theorem sfx_pop (s : Cur) : SufX s (popC s) := List.tail_suffix _
theorem sfx_fail (x : Int) (s : Cur) : SufX s (failC x s) := by
 unfold failC
 split
 ·exact SufX.refl s
 ·split <;> exact SufX.refl s
theorem sfx_name (s : Cur) : SufX s (nameC s).2 := by
 unfold nameC
 split
 ·split
  ·exact sfx_pop s
  ·exact sfx_fail _ s
 ·exact sfx_fail _ s
theorem sfx_num (lo hi : Int) (s : Cur) : SufX s (numC lo hi s).2 := by
 unfold numC
 split
 ·split
  ·split
   ·exact sfx_fail _ s
   ·exact sfx_pop s
  ·exact sfx_fail _ s
 ·exact sfx_fail _ s
theorem sfx_mark : ∀ (l : List ByteArray) (s : Cur), SufX s (markC l s)
 | [], s => SufX.refl s
 | t :: l, s => by
  unfold markC
  refine SufX.trans ?_ (sfx_mark l _)
  split
  ·exact sfx_pop s
  ·exact sfx_fail _ s
theorem sfx_end (s : Cur) : SufX s (endC s) := by
 unfold endC
 split
 ·split
  ·exact sfx_pop s
  ·exact sfx_fail _ s
 ·exact SufX.refl s
theorem sfx_kind : ∀ (l : List ByteArray) (k : Nat) (s : Cur), SufX s (kindC l k s).2
 | [], _, s => SufX.refl s
 | t :: l, k, s => by
  unfold kindC
  split
  ·exact sfx_pop s
  ·exact sfx_kind l (k + 1) s
theorem sfx_over (b : Bool) (s : Cur) : SufX s (overC b s) := by
 unfold overC
 split
 ·exact sfx_pop s
 ·exact SufX.refl s
theorem sfx_var (s : Cur) : SufX s (varC s).2 := by
 unfold varC
 split
 ·exact sfx_fail _ s
 ·exact sfx_name s
theorem sfx_someG {q u : Bool} {x y : List Int × Cur} (h : someG q u x = some y) : SufX x.2 y.2 := by
 unfold someG at h
 split at h
 ·cases h
 ·split at h
  ·injection h with h; subst h; exact sfx_fail _ _
  ·split at h
   ·injection h with h; subst h; exact sfx_fail _ _
   ·injection h with h; subst h; exact sfx_var x.2
theorem sfx_loop {α : Type} {g : α × Cur → Option (α × Cur)} (hg : ∀ x y, g x = some y → SufX x.2 y.2) : ∀ (f : Nat) (x : α × Cur), SufX x.2 (loopC g f x).2
 | 0, x => SufX.refl _
 | f + 1, x => by
  cases h : g x with
  | none => rw [loop_none h]; exact SufX.refl _
  | some y => rw [loop_some h]; exact (hg x y h).trans (sfx_loop hg f y)
theorem sfx_some (q u : Bool) (x : List Int × Cur) : SufX x.2 (someC q u x).2 := sfx_loop (fun _ _ h => sfx_someG h) _ x
theorem sfx_ins (q : Bool) (o dst : Int) (s : Cur) : SufX s (insC q o dst s).2 := by
 unfold insC
 split
 ·exact sfx_num _ _ s
 ·split
  ·exact (sfx_num _ _ s).trans (sfx_some _ _ _)
  ·simp only
   have h2 : ∀ t : Cur, SufX t (if o = 11 then immC t else (0, t)).2 := fun t => by
    split
    ·exact sfx_num _ _ _
    ·exact SufX.refl _
   have h3 : ∀ t : Cur, SufX t (if o ≤ 10 then varC t else (0, t)).2 := fun t => by
    split
    ·exact sfx_var t
    ·exact SufX.refl _
   exact ((sfx_var s).trans (h2 _)).trans (h3 _)
theorem sfx_op (s : Cur) : SufX s (opC s).2 := by
 unfold opC
 simp only
 split
 ·exact sfx_kind _ _ s
 ·split
  ·exact sfx_pop s
  ·split
   ·exact sfx_pop s
   ·split
    ·exact sfx_pop s
    ·exact SufX.refl _
theorem sfx_one (q : Bool) (s : Cur) : SufX s (oneC q s).2 := by
 unfold oneC
 split
 ·exact sfx_pop s
 split
 ·refine (sfx_pop s).trans ?_
  simp only [termL]
  split
  ·exact SufX.refl _
  ·exact sfx_var _
 split
 ·exact (sfx_pop s).trans (sfx_num _ _ _)
 split
 ·exact (sfx_pop s).trans ((sfx_var _).trans ((sfx_num _ _ _).trans (sfx_var _)))
 split
 ·exact (sfx_pop s).trans (sfx_ins _ _ _ _)
 ·simp only
  split
  ·exact (sfx_var s).trans ((sfx_pop _).trans ((sfx_num _ _ _).trans (sfx_num _ _ _)))
  ·exact (sfx_var s).trans ((sfx_mark _ _).trans ((sfx_op _).trans (sfx_ins _ _ _ _)))
theorem sfx_blkG {q : Bool} {x y : (Block × Bool) × Cur} (h : blkG q x = some y) : SufX x.2 y.2 := by
 unfold blkG at h
 split at h
 ·cases h
 ·have h1 := sfx_one q x.2
  split at h
  ·injection h with h; subst h
   exact h1.trans (sfx_end _)
  ·injection h with h; subst h
   refine h1.trans (SufX.trans ?_ (sfx_end _))
   split
   ·exact sfx_fail _ _
   ·exact SufX.refl _
theorem sfx_key (t : ByteArray) (s : Cur) : SufX s (keyC t s) := by
 unfold keyC
 split
 ·exact sfx_pop s
 ·exact sfx_fail _ s
theorem sfx_head (n : Nat) (s : Cur) : SufX s (headB n s) := by
 unfold headB
 refine SufX.trans ?_ ((sfx_key tBlock _).trans ((sfx_num _ _ _).trans (sfx_end _)))
 split
 ·exact sfx_fail _ s
 ·exact SufX.refl s
theorem sfx_whole (q : Bool) (n : Nat) (s : Cur) : SufX s (wholeC q n s).2 := (sfx_head n s).trans (sfx_loop (fun _ _ h => sfx_blkG h) _ _)
theorem totL_mem : ∀ {xs : List Word} {x : Word}, x ∈ xs → x.text.size ≤ totL xs
 | y :: l, x, h => by
  rcases List.mem_cons.1 h with rfl | h
  ·simp only [totL]; omega
  ·have := totL_mem h; simp only [totL]; omega
theorem wd_over (s : ByteArray) (hs : s.size ≤ 262144) : Wd (overT s) := by
 have h0 : (readR s).words.length ≤ 1099511627770 ∧ ∀ x ∈ (readR s).words, x.text.size ≤ 1099511627770 := by
  by_cases he : (readR s).err = 0
  ·obtain ⟨ws, _, hR, _, _, ht⟩ := read_lexes he
   rw [hR]
   have := totL_len2 ws
   refine ⟨?_, fun x hx => ?_⟩
   ·show ws.length ≤ _; omega
   ·have := totL_mem (show x ∈ ws from hx); omega
  ·rw [(read_err s he).1]; simp
 unfold overT
 split
 ·exact ⟨Nat.zero_le _, fun _ h => by cases h⟩
 ·have h2 := compK_len (readR s).words true
  have h3 : ∀ l : List Word, (dropEnd l).length ≤ l.length ∧ ∀ x ∈ dropEnd l, x ∈ l := fun l => by
   unfold dropEnd
   split
   ·split
    ·exact ⟨by simp, fun x hx => (List.dropLast_sublist l).subset hx⟩
    ·exact ⟨Nat.le_refl _, fun _ h => h⟩
   ·exact ⟨Nat.le_refl _, fun _ h => h⟩
  obtain ⟨h4, h5⟩ := h3 (compK true (readR s).words)
  exact ⟨by simp only; omega, fun x hx => h0.2 x (compK_mem _ _ x (h5 x hx))⟩
theorem Wd.peek {s : Cur} (h : Wd s) : (peekC s).size ≤ 1099511627770 := by
 unfold peekC headC
 split
 ·rename_i w hw
  split at hw
  ·split
   ·exact h.t w (List.mem_of_mem_head? hw)
   ·exact Nat.zero_le _
  ·cases hw
 ·exact Nat.zero_le _
end Go.Proofs.YtljglhaeonbfoaaGreatDoor
