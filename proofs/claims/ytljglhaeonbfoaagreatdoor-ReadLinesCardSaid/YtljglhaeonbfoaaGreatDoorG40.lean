/- law02: the document's cursor. Printed by gen_l2j.py. law02: the document's Over. -/
import Derived.Test.YtljglhaeonbfoaaGreatDoorG16
import Derived.BigQuiet
import Derived.Test.YtljglhaeonbfoaaGreatDoorL2i
import Derived.Test.YtljglhaeonbfoaaGreatDoorG9
set_option linter.unusedSimpArgs false
set_option linter.unusedVariables false
namespace Go.Proofs.YtljglhaeonbfoaaGreatDoor
open Go.RowKit
def docCells (v : Value) (s : Cur) : Array Value := #[v, .int .i64 s.e, .int .i64 s.line, .int .i64 s.col]
structure DocAt (w : World) (S : Nat → Prop) (c : Nat) (s : Cur) : Prop where
 cells : ∃ A n k, w.heap[c]? = some (.cells (docCells (.slice A n k) s) 135 (0, 0)) ∧ Sl w S A n k s.ws
 ok : CurOk s
 nS : ¬ S c
section
variable {w w' : World} {S : Nat → Prop} {c d : Nat} {s s' : Cur}
theorem DocAt.lt (h : DocAt w S c s) : c < w.heap.size := by
 obtain ⟨A, n, k, hb, _⟩ := h.cells
 exact (Array.getElem?_eq_some_iff.1 hb).1
theorem DocAt.keep (h : DocAt w S c s) (hs : w.heap.size ≤ w'.heap.size) (hc : w'.heap[c]? = w.heap[c]?) (hk : ∀ b, S b → b < w.heap.size → w'.heap[b]? = w.heap[b]?) : DocAt w' S c s := by
 obtain ⟨A, n, k, hb, hsl⟩ := h.cells
 exact ⟨⟨A, n, k, hc.trans hb, hsl.keep hs hk⟩, h.ok, h.nS⟩
theorem DocAt.below (h : DocAt w S c s) (hb : Below w.heap.size w w') : DocAt w' S c s := h.keep hb.size (hb.block c h.lt) fun b _ hb' => hb.block b hb'
theorem DocAt.ext (h : DocAt w S c s) (u : Ext) : DocAt (w.ext u) S c s := h.below (Below.of_ext w u (Nat.le_refl _))
theorem DocAt.at_ (h : DocAt w S c s) : ∃ A n k, w.cell? ⟨c, 0, none⟩ = some (.slice A n k) ∧ w.cell? ⟨c, 1, none⟩ = some (.int .i64 s.e) ∧ w.cell? ⟨c, 2, none⟩ = some (.int .i64 s.line) ∧ w.cell? ⟨c, 3, none⟩ = some (.int .i64 s.col) ∧ Sl w S A n k s.ws := by
 obtain ⟨A, n, k, hb, hsl⟩ := h.cells
 exact ⟨A, n, k, cell_of_row w c _ _ _ (0, 0) hb, cell_of_row w c _ _ _ (0, 0) hb, cell_of_row w c _ _ _ (0, 0) hb, cell_of_row w c _ _ _ (0, 0) hb, hsl⟩
theorem DocAt.fz (h : DocAt w S c s) (j : Nat) : w.frozen? ⟨c, j, none⟩ = false := by
 obtain ⟨A, n, k, hb, hsl⟩ := h.cells
 simp [World.frozen?, hb]
theorem DocAt.moreS {S' : Nat → Prop} (h : DocAt w S c s) (hS : ∀ b, b < w.heap.size → S b → S' b) (hn : ¬ S' c) : DocAt w S' c s := by
 obtain ⟨A, n, k, hb, hsl⟩ := h.cells
 exact ⟨⟨A, n, k, hb, hsl.more hS⟩, h.ok, hn⟩
theorem DocAt.putWs (h : DocAt w S c s) {A : Option Addr} {n k : Nat} (hs : Sl w S A n k s'.ws) (he : s'.e = s.e) (hl : s'.line = s.line) (hc : s'.col = s.col) (hok : CurOk s') : DocAt (w.setCell ⟨c, 0, none⟩ (.slice A n k)) S c s' := by
 obtain ⟨A0, n0, k0, hb, hsl⟩ := h.cells
 exact ⟨⟨A, n, k, by rw [row_setB hb]; unfold docCells; rw [he, hl, hc]; rfl, hs.setCell h.nS _⟩, hok, h.nS⟩
end
def DocP (S : Nat → Prop) (c : Nat) (w : World) (s' : Cur) (v : Value) (e : Ending) (w' : World) : Prop := e = .returned v ∧ DocAt w' S c s' ∧ Only c w w'
inductive DocNext (w : World) (c : Nat) (s : Cur) : Prop where
 | bad (he : (s.e == 0) = false)
 | none (he : s.e = 0) (hw : s.ws = []) (k : Nat) (A : Option Addr) (k0 : w.cell? ⟨c, 0, none⟩ = some (.slice A 0 k))
 | some (x : Word) (l : List Word) (he : s.e = 0) (hw : s.ws = x :: l) (n k b off : Nat) (k0 : w.cell? ⟨c, 0, none⟩ = some (.slice (some ⟨b, off, none⟩) n k)) (hn : 0 < n) (hnk : n ≤ k) (hn9 : n ≤ 9223372036854775807) (hb : b < w.heap.size) (hcb : ¬ b = c)
   (c0 : w.cell? ⟨b, off, none⟩ = some (.int .i64 x.kind)) (c1 : w.cell? ⟨b, off + 1, none⟩ = some (.string x.text)) (c2 : w.cell? ⟨b, off + 2, none⟩ = some (.int .i64 x.n)) (c3 : w.cell? ⟨b, off + 3, none⟩ = some (.int .i64 x.line)) (c4 : w.cell? ⟨b, off + 4, none⟩ = some (.int .i64 x.col))
section
variable {w : World} {S : Nat → Prop} {c : Nat} {s : Cur}
theorem DocAt.next (h : DocAt w S c s) : DocNext w c s := by
 by_cases he : s.e = 0
 ·obtain ⟨A, n, k, k0, k1, k2, k3, hs⟩ := h.at_
  cases hw : s.ws with
  | nil =>
   have hn : n = 0 := by have := hs.len; rw [hw] at this; exact this.symm
   subst hn
   exact .none he hw k A k0
  | cons x l =>
   have hn : n = l.length + 1 := by have := hs.len; rw [hw] at this; simp at this; omega
   obtain ⟨b, off, y, rfl, hb, hy, _, _, _, _, _, c0, c1, c2, c3, c4⟩ := at_Word hs (k := 0) (by omega)
   have hyx : y = x := by rw [hw] at hy; simp at hy; exact hy.symm
   subst hyx
   simp only [Nat.zero_mul, Nat.add_zero] at c0 c1 c2 c3 c4
   obtain ⟨b', off', _, _, e', _, hS', _⟩ := hs.at_ (k := 0) (by omega)
   injection e' with e'; injection e' with e1 e2
   exact .some y l he hw n k b off k0 (by omega) hs.2.1 hs.nle hb (fun e => h.nS (by rw [← e, e1]; exact hS')) c0 c1 c2 c3 c4
 ·exact .bad (by simp [he])
theorem headC_bad' (he : (s.e == 0) = false) : headC s = none := headC_bad (by simpa using he)
set_option maxRecDepth 100000 in
set_option maxHeartbeats 4000000 in
theorem dMore (h : DocAt w S c s) : Calls Tryz.prog 51 #[.pointer (some ⟨c, 0, none⟩)] w (Ret (.bool (moreC s)) w) := by
 have H := hide h
 have hlt := h.lt
 have hnx := h.next
 have k1 := h.at_.choose_spec.choose_spec.choose_spec.2.1
 clear h
 cases hnx with
 | bad he =>
  have hg : moreC s = false := by unfold moreC; rw [he]; rfl
  rw [hg]
  clear hg
  go_enter Tryz.func51, Tryz.ntmps51
  go_wp2_with fail
  go_ret
  exact ⟨rfl, rfl⟩
 | none he hw k A k0 =>
  rw [he] at k1
  have hg : moreC s = false := by unfold moreC; rw [he, hw]; rfl
  rw [hg]
  clear hg he hw
  go_enter Tryz.func51, Tryz.ntmps51
  go_wp2_with fail
  go_ret
  exact ⟨rfl, rfl⟩
 | some x l he hw n k b off k0 hn hnk hn9 hb hcb c0 c1 c2 c3 c4 =>
  rw [he] at k1
  have hg : moreC s = true := by unfold moreC; rw [he, hw]; rfl
  rw [hg]
  clear hg he hw c0 c1 c2 c3 c4
  go_enter Tryz.func51, Tryz.ntmps51
  go_wp2_with fail
  go_ret
  exact ⟨rfl, rfl⟩
def nextD (k : Int) (t : ByteArray) (s : Cur) : Bool := match headC s with
 | some w => w.kind == k && (w.text.toList == t.toList)
 | none => false
theorem nextD_nm (h : CurOk s) (t : ByteArray) : nextD 1 t s = isC (.nm t) s := by
 unfold nextD isC
 cases hd : headC s with
 | none => rfl
 | some x =>
  have hx : x ∈ s.ws := by
   unfold headC at hd
   split at hd
   ·exact List.mem_of_mem_head? hd
   ·cases hd
  simp only
  unfold hasW
  rcases h.k x hx with h | h | h | h <;> rw [h] <;> rfl
theorem nextD_mk (h : CurOk s) (t : ByteArray) : nextD 3 t s = isC (.mk t) s := by
 unfold nextD isC
 cases hd : headC s with
 | none => rfl
 | some x =>
  have hx : x ∈ s.ws := by
   unfold headC at hd
   split at hd
   ·exact List.mem_of_mem_head? hd
   ·cases hd
  simp only
  unfold hasW
  rcases h.k x hx with h | h | h | h <;> rw [h] <;> rfl
set_option maxRecDepth 100000 in
set_option maxHeartbeats 4000000 in
theorem dNext (h : DocAt w S c s) (kk : Int) (t : ByteArray) : Calls Tryz.prog 102 #[.pointer (some ⟨c, 0, none⟩), .int .i64 kk, .string t] w (Ret (.bool (nextD kk t s)) w) := by
 have H := hide h
 have hlt := h.lt
 have hnx := h.next
 have k1 := h.at_.choose_spec.choose_spec.choose_spec.2.1
 clear h
 cases hnx with
 | bad he =>
  have HM := hide (dMore H.out)
  have hm : moreC s = false := by unfold moreC; rw [he]; rfl
  rw [hm] at HM
  clear hm
  have hg : nextD kk t s = false := by unfold nextD; rw [headC_bad' he]
  rw [hg]
  clear hg he
  go_enter Tryz.func102, Tryz.ntmps102
  go_wp2_with ((go_at_call 51; refine HM.out.mono ?_; rintro e w' ⟨rfl, rfl⟩))
  go_ret
  exact ⟨rfl, rfl⟩
 | none he hw k A k0 =>
  rw [he] at k1
  have HM := hide (dMore H.out)
  have hm : moreC s = false := by unfold moreC; rw [he, hw]; rfl
  rw [hm] at HM
  clear hm
  have hg : nextD kk t s = false := by unfold nextD; rw [headC_nil hw]
  rw [hg]
  clear hg he
  go_enter Tryz.func102, Tryz.ntmps102
  go_wp2_with ((go_at_call 51; refine HM.out.mono ?_; rintro e w' ⟨rfl, rfl⟩))
  go_ret
  exact ⟨rfl, rfl⟩
 | some x l he hw n k b off k0 hn hnk hn9 hb hcb c0 c1 c2 c3 c4 =>
  rw [he] at k1
  have HM := hide (dMore H.out)
  have hm : moreC s = true := by unfold moreC; rw [he, hw]; rfl
  rw [hm] at HM
  clear hm
  have hg : nextD kk t s = (x.kind == kk && (x.text.toList == t.toList)) := by unfold nextD; rw [headC_cons he hw]
  rw [hg]
  obtain ⟨b2, hb2⟩ : ∃ b, (x.text.toList == t.toList) = b := ⟨_, rfl⟩
  rw [hb2]
  by_cases hkk : x.kind = kk
  ·have hbk : (x.kind == kk) = true := by simp [hkk]
   rw [hbk, Bool.true_and]
   subst hkk
   clear hg he hw hbk
   go_enter Tryz.func102, Tryz.ntmps102
   go_wp2_with ((go_at_call 51; refine HM.out.mono ?_; rintro e w' ⟨rfl, rfl⟩))
   go_ret
   exact ⟨rfl, rfl⟩
  ·have hbk : (x.kind == kk) = false := by simp [hkk]
   rw [hbk, Bool.false_and]
   clear hg he hw hbk
   go_enter Tryz.func102, Tryz.ntmps102
   go_wp2_with ((go_at_call 51; refine HM.out.mono ?_; rintro e w' ⟨rfl, rfl⟩))
   go_ret
   exact ⟨rfl, rfl⟩
set_option maxRecDepth 100000 in
set_option maxHeartbeats 4000000 in
theorem dOver (h : DocAt w S c s) (b : Bool) (hb : b = true → s.ws ≠ []) : Calls Tryz.prog 101 #[.pointer (some ⟨c, 0, none⟩), .bool b] w (DocP S c w (overC b s) (.bool b)) := by
 have H := hide h
 have hlt := h.lt
 cases b
 ·clear h hb
  go_enter Tryz.func101, Tryz.ntmps101
  go_wp2_with fail
  go_ret
  exact ⟨rfl, H.out, Only.refl _ _⟩
 ·obtain ⟨A, n, k, k0, k1, k2, k3, hs⟩ := h.at_
  have hn := hs.nle
  have hf := h.fz 0
  have hne := hb rfl
  have h0 : 0 < n := by
   have := hs.len
   cases hw : s.ws with
   | nil => exact absurd hw hne
   | cons y l => rw [hw] at this; simp at this; omega
  have HS := hide hs
  have hnk := hs.2.1
  clear h hs hne hb k1 k2 k3
  obtain ⟨bb, off, _, rfl, hbb, _⟩ := at_Word HS.out h0
  go_enter Tryz.func101, Tryz.ntmps101
  go_wp2_with fail
  all_goals go_ret
  ·have hn1 : n = 1 := by omega
   subst_vars
   have hl : s.ws.tail = [] := by have := HS.out.len; cases hw : s.ws with | nil => rfl | cons y l => rw [hw] at this; simp at this; simp [this]
   refine ⟨rfl, H.out.putWs (s' := popC s) ?_ rfl rfl rfl (popC_ok H.out.ok), (Only.refl c w).set rfl _⟩
   show Sl w S _ (1 - 1) 0 s.ws.tail
   rw [hl]
   exact Sl.zero_
  ·exact ⟨rfl, H.out.putWs (s' := popC s) (HS.out.tail_ h0) rfl rfl rfl (popC_ok H.out.ok), (Only.refl c w).set rfl _⟩
theorem nextD_ne {k : Int} {t : ByteArray} (h : nextD k t s = true) : s.ws ≠ [] := by
 intro e; unfold nextD at h; rw [headC_nil e] at h; cases h
set_option maxRecDepth 100000 in
set_option maxHeartbeats 4000000 in
theorem dKey (h : DocAt w S c s) (t : ByteArray) : Calls Tryz.prog 47 #[.pointer (some ⟨c, 0, none⟩), .string t] w (DocP S c w (overC (isC (.nm t) s) s) (.bool (isC (.nm t) s))) := by
 have HN := hide (dNext h 1 t); have HO := hide (dOver h (nextD 1 t s) (fun e => nextD_ne e))
 rw [nextD_nm h.ok] at HN HO
 obtain ⟨b, hb⟩ : ∃ b, isC (.nm t) s = b := ⟨_, rfl⟩
 rw [hb] at HN HO ⊢
 clear hb h
 go_enter Tryz.func47, Tryz.ntmps47
 go_wp2_with (first | (go_at_call 102; refine HN.out.mono ?_; rintro e w' ⟨rfl, rfl⟩) | (go_at_call 101; refine HO.out.mono ?_; rintro e w1 ⟨rfl, hat, hon⟩))
 go_ret
 exact ⟨rfl, hat, hon⟩
set_option maxRecDepth 100000 in
set_option maxHeartbeats 4000000 in
theorem dIs (h : DocAt w S c s) (t : ByteArray) : Calls Tryz.prog 153 #[.pointer (some ⟨c, 0, none⟩), .string t] w (DocP S c w (overC (isC (.mk t) s) s) (.bool (isC (.mk t) s))) := by
 have HN := hide (dNext h 3 t); have HO := hide (dOver h (nextD 3 t s) (fun e => nextD_ne e))
 rw [nextD_mk h.ok] at HN HO
 obtain ⟨b, hb⟩ : ∃ b, isC (.mk t) s = b := ⟨_, rfl⟩
 rw [hb] at HN HO ⊢
 clear hb h
 go_enter Tryz.func153, Tryz.ntmps153
 go_wp2_with (first | (go_at_call 102; refine HN.out.mono ?_; rintro e w' ⟨rfl, rfl⟩) | (go_at_call 101; refine HO.out.mono ?_; rintro e w1 ⟨rfl, hat, hon⟩))
 go_ret
 exact ⟨rfl, hat, hon⟩
set_option maxRecDepth 100000 in
set_option maxHeartbeats 4000000 in
theorem dFail (h : DocAt w S c s) (v : Int) : Calls Tryz.prog 48 #[.pointer (some ⟨c, 0, none⟩), .int .i64 v] w (DocP S c w (failC v s) (.tuple #[])) := by
 have H := hide h
 have hlt := h.lt
 have hnx := h.next
 have k1 := h.at_.choose_spec.choose_spec.choose_spec.2.1
 clear h
 cases hnx with
 | bad he =>
  have hg : failC v s = s := by unfold failC; rw [if_pos (.inl (by simpa using he))]
  rw [hg]
  clear hg
  go_enter Tryz.func48, Tryz.ntmps48
  go_wp2_with fail
  go_end0
  exact ⟨rfl, H.out, Only.refl _ _⟩
 | none he hw k A k0 =>
  rw [he] at k1
  by_cases h0 : v = 0
  ·have hg : failC v s = s := by unfold failC; rw [if_pos (.inr h0)]
   rw [hg]
   subst h0
   clear hg he hw
   go_enter Tryz.func48, Tryz.ntmps48
   go_wp2_with fail
   go_end0
   exact ⟨rfl, H.out, Only.refl _ _⟩
  ·have hg : failC v s = { s with e := v } := by unfold failC; rw [if_neg (by omega), hw]
   rw [hg]
   have hvb : (v == 0) = false := by simp [h0]
   have hz := H.out.ok.z he
   have f1 := H.out.fz 1
   have HW := hide hw
   have HE := hide he
   have H0 := hide h0
   clear hg he hw h0 hz
   go_enter Tryz.func48, Tryz.ntmps48
   go_wp2_with fail
   go_end0
   obtain ⟨A', n', k', hb', hs'⟩ := H.out.cells
   refine ⟨rfl, ⟨⟨A', n', k', ?_, hs'.setCell H.out.nS _⟩, ⟨H.out.ok.k, fun e => absurd e H0.out⟩, H.out.nS⟩, (Only.refl c w).set rfl _⟩
   rw [row_setB hb' 1 _]
   rfl
 | some x l he hw n k b off k0 hn hnk hn9 hb hcb c0 c1 c2 c3 c4 =>
  rw [he] at k1
  by_cases h0 : v = 0
  ·have hg : failC v s = s := by unfold failC; rw [if_pos (.inr h0)]
   rw [hg]
   subst h0
   clear hg he hw c0 c1 c2 c3 c4
   go_enter Tryz.func48, Tryz.ntmps48
   go_wp2_with fail
   go_end0
   exact ⟨rfl, H.out, Only.refl _ _⟩
  ·have hg : failC v s = { s with e := v, line := x.line, col := x.col } := by unfold failC; rw [if_neg (by omega), hw]
   rw [hg]
   have hvb : (v == 0) = false := by simp [h0]
   have f1 := H.out.fz 1; have f2 := H.out.fz 2; have f3 := H.out.fz 3
   have k2 := H.out.at_.choose_spec.choose_spec.choose_spec.2.2.1
   have k3 := H.out.at_.choose_spec.choose_spec.choose_spec.2.2.2.1
   have H0 := hide h0
   clear hg he hw h0
   go_enter Tryz.func48, Tryz.ntmps48
   go_wp2_with fail
   go_end0
   obtain ⟨A', n', k', hb', hs'⟩ := H.out.cells
   refine ⟨rfl, ⟨⟨A', n', k', ?_, ((hs'.setCell H.out.nS _).setCell H.out.nS _).setCell H.out.nS _⟩, ⟨H.out.ok.k, fun e => absurd e H0.out⟩, H.out.nS⟩, (((Only.refl c w).set rfl _).set rfl _).set rfl _⟩
   rw [row_setB (row_setB (row_setB hb' 1 _) 2 _) 3 _]
   rfl
theorem dPop (h : DocAt w S c s) {A : Option Addr} {n k : Nat} (hs : Sl w S A n k s.ws.tail) : DocAt (w.setCell ⟨c, 0, none⟩ (.slice A n k)) S c (popC s) := h.putWs (s' := popC s) hs rfl rfl rfl (popC_ok h.ok)
set_option maxRecDepth 100000 in
set_option maxHeartbeats 4000000 in
theorem dNum (h : DocAt w S c s) (lo hi : Int) : Calls Tryz.prog 105 #[.pointer (some ⟨c, 0, none⟩), .int .i64 lo, .int .i64 hi] w (DocP S c w (numC lo hi s).2 (.int .i64 (numC lo hi s).1)) := by
 have H := hide h
 have hlt := h.lt
 have hnx := h.next
 have k1 := h.at_.choose_spec.choose_spec.choose_spec.2.1
 clear h
 cases hnx with
 | bad he =>
  have HM := hide (dMore H.out)
  have hm : moreC s = false := by unfold moreC; rw [he]; rfl
  rw [hm] at HM
  clear hm
  have hg : numC lo hi s = (0, failC 7 s) := by unfold numC; rw [headC_bad' he]
  rw [hg]
  have HF := hide (dFail H.out 7)
  clear hg he
  go_enter Tryz.func105, Tryz.ntmps105
  go_wp2_with (first | (go_at_call 51; refine HM.out.mono ?_; rintro e w' ⟨rfl, rfl⟩) | (go_at_call 48; refine HF.out.mono ?_; rintro e w1 ⟨rfl, hat, hon⟩))
  go_ret
  exact ⟨rfl, hat, hon⟩
 | none he hw k A k0 =>
  rw [he] at k1
  have HM := hide (dMore H.out)
  have hm : moreC s = false := by unfold moreC; rw [he, hw]; rfl
  rw [hm] at HM
  clear hm
  have hg : numC lo hi s = (0, failC 7 s) := by unfold numC; rw [headC_nil hw]
  rw [hg]
  have HF := hide (dFail H.out 7)
  clear hg he
  go_enter Tryz.func105, Tryz.ntmps105
  go_wp2_with (first | (go_at_call 51; refine HM.out.mono ?_; rintro e w' ⟨rfl, rfl⟩) | (go_at_call 48; refine HF.out.mono ?_; rintro e w1 ⟨rfl, hat, hon⟩))
  go_ret
  exact ⟨rfl, hat, hon⟩
 | some x l he hw n k b off k0 hn hnk hn9 hb hcb c0 c1 c2 c3 c4 =>
  rw [he] at k1
  have HM := hide (dMore H.out)
  have hm : moreC s = true := by unfold moreC; rw [he, hw]; rfl
  rw [hm] at HM
  clear hm
  by_cases h1 : x.kind = 2
  ·by_cases hr : x.n < lo ∨ hi < x.n
   ·have hg : numC lo hi s = (0, failC 3 s) := by unfold numC; rw [headC_cons he hw]; simp only [if_pos h1, if_pos hr]
    rw [hg]
    have HF := hide (dFail H.out 3)
    rw [h1] at c0
    clear hg he hw h1
    by_cases hlo : x.n < lo
    ·clear hr
     go_enter Tryz.func105, Tryz.ntmps105
     go_wp2_with (first | (go_at_call 51; refine HM.out.mono ?_; rintro e w' ⟨rfl, rfl⟩) | (go_at_call 48; refine HF.out.mono ?_; rintro e w1 ⟨rfl, hat, hon⟩))
     go_ret
     exact ⟨rfl, hat, hon⟩
    ·have hhi : hi < x.n := by omega
     clear hr
     go_enter Tryz.func105, Tryz.ntmps105
     go_wp2_with (first | (go_at_call 51; refine HM.out.mono ?_; rintro e w' ⟨rfl, rfl⟩) | (go_at_call 48; refine HF.out.mono ?_; rintro e w1 ⟨rfl, hat, hon⟩))
     all_goals go_ret
     all_goals exact ⟨rfl, hat, hon⟩
   ·have hsl : Sl w S (some ⟨b, off, none⟩) n k s.ws := by
     obtain ⟨A', n', k', q0, _, _, _, hs'⟩ := H.out.at_
     rw [k0] at q0
     injection q0 with q0
     injection q0 with e1 e2 e3
     subst e1 e2 e3
     exact hs'
    have HSL := hide hsl
    have hf0 := H.out.fz 0
    clear hsl
    have hg : numC lo hi s = (x.n, popC s) := by unfold numC; rw [headC_cons he hw]; simp only [if_pos h1, if_neg hr]
    rw [hg]
    rw [h1] at c0
    have hlo : ¬ x.n < lo := fun h => hr (.inl h)
    have hhi : ¬ hi < x.n := fun h => hr (.inr h)
    clear hr
    clear hg he hw h1
    go_enter Tryz.func105, Tryz.ntmps105
    go_wp2_with ((go_at_call 51; refine HM.out.mono ?_; rintro e w' ⟨rfl, rfl⟩))
    all_goals go_ret
    ·have hn1 : n = 1 := by omega
     subst_vars
     have hl : s.ws.tail = [] := by have := HSL.out.len; cases hw : s.ws with | nil => rfl | cons y l => rw [hw] at this; simp at this; simp [this]
     exact ⟨rfl, dPop H.out (by rw [hl]; exact Sl.zero_), (Only.refl c w).set rfl _⟩
    ·exact ⟨rfl, dPop H.out (HSL.out.tail_ hn), (Only.refl c w).set rfl _⟩
  ·have hg : numC lo hi s = (0, failC 7 s) := by unfold numC; rw [headC_cons he hw]; exact if_neg h1
   rw [hg]
   have HF := hide (dFail H.out 7)
   clear hg he hw
   go_enter Tryz.func105, Tryz.ntmps105
   go_wp2_with (first | (go_at_call 51; refine HM.out.mono ?_; rintro e w' ⟨rfl, rfl⟩) | (go_at_call 48; refine HF.out.mono ?_; rintro e w1 ⟨rfl, hat, hon⟩))
   go_ret
   exact ⟨rfl, hat, hon⟩
set_option maxRecDepth 100000 in
set_option maxHeartbeats 4000000 in
theorem dEnd (h : DocAt w S c s) : Calls Tryz.prog 50 #[.pointer (some ⟨c, 0, none⟩)] w (DocP S c w (endC s) (.tuple #[])) := by
 have H := hide h
 have hlt := h.lt
 have hnx := h.next
 have k1 := h.at_.choose_spec.choose_spec.choose_spec.2.1
 clear h
 cases hnx with
 | bad he =>
  have HM := hide (dMore H.out)
  have hm : moreC s = false := by unfold moreC; rw [he]; rfl
  rw [hm] at HM
  clear hm
  have hg : endC s = s := by unfold endC; rw [headC_bad' he]
  rw [hg]
  clear hg he
  go_enter Tryz.func50, Tryz.ntmps50
  go_wp2_with ((go_at_call 51; refine HM.out.mono ?_; rintro e w' ⟨rfl, rfl⟩))
  go_end0
  exact ⟨rfl, H.out, Only.refl _ _⟩
 | none he hw k A k0 =>
  rw [he] at k1
  have HM := hide (dMore H.out)
  have hm : moreC s = false := by unfold moreC; rw [he, hw]; rfl
  rw [hm] at HM
  clear hm
  have hg : endC s = s := by unfold endC; rw [headC_nil hw]
  rw [hg]
  clear hg he
  go_enter Tryz.func50, Tryz.ntmps50
  go_wp2_with ((go_at_call 51; refine HM.out.mono ?_; rintro e w' ⟨rfl, rfl⟩))
  go_end0
  exact ⟨rfl, H.out, Only.refl _ _⟩
 | some x l he hw n k b off k0 hn hnk hn9 hb hcb c0 c1 c2 c3 c4 =>
  rw [he] at k1
  have HM := hide (dMore H.out)
  have hm : moreC s = true := by unfold moreC; rw [he, hw]; rfl
  rw [hm] at HM
  clear hm
  by_cases h1 : x.kind = 4
  ·have hg : endC s = popC s := by unfold endC; rw [headC_cons he hw]; exact if_pos h1
   rw [hg]
   rw [h1] at c0
   have HO := hide (dOver H.out true (fun _ => by rw [hw]; simp))
   have ho : overC true s = popC s := rfl
   rw [ho] at HO
   clear hg he hw h1 ho
   go_enter Tryz.func50, Tryz.ntmps50
   go_wp2_with (first | (go_at_call 51; refine HM.out.mono ?_; rintro e w' ⟨rfl, rfl⟩) | (go_at_call 101; refine HO.out.mono ?_; rintro e w1 ⟨rfl, hat, hon⟩))
   go_end0
   exact ⟨rfl, hat, hon⟩
  ·have hg : endC s = failC 7 s := by unfold endC; rw [headC_cons he hw]; exact if_neg h1
   rw [hg]
   have HO := hide (dOver H.out false (fun h => by cases h))
   have ho : overC false s = s := rfl
   rw [ho] at HO
   have h1b : (x.kind == 4) = false := by simp [h1]
   clear hg he hw ho h1
   go_enter Tryz.func50, Tryz.ntmps50
   go_wp2_with (first | (go_at_call 51; refine HM.out.mono ?_; rintro e w' ⟨rfl, rfl⟩) | (go_at_call 101; refine HO.out.mono ?_; rintro e w1 ⟨rfl, hat1, hon1⟩) | (go_at_call 48; refine (dFail hat1 7).mono ?_; rintro e w2 ⟨rfl, hat, hon⟩))
   go_end0
   exact ⟨rfl, hat, hon1.trans hon⟩
set_option maxRecDepth 100000 in
set_option maxHeartbeats 4000000 in
theorem dMark (h : DocAt w S c s) {S2 : Nat → Prop} {B : Option Addr} {m k : Nat} {ts : List ByteArray} (ht : Sl w S2 B m k ts) (hS2 : ¬ S2 c) : Calls Tryz.prog 155 #[.pointer (some ⟨c, 0, none⟩), .slice B m k] w (DocP S c w (markC ts s) (.tuple #[])) := by
 have H := hide h; have HT := hide ht
 have hm := ht.nle
 clear h ht
 go_enter Tryz.func155, Tryz.ntmps155
 go_wp2_with fail
 go_loopw [4] (fun i wr => ∃ (j : Nat) (s' : Cur), i = .int .i64 j ∧ j ≤ m ∧ DocAt wr S c s' ∧ Only c w wr ∧ markC (ts.drop j) s' = markC ts s) (fun i _ => m - (intOf i).toNat)
 case atStart => exact ⟨0, s, rfl, Nat.zero_le _, H.out, Only.refl _ _, rfl⟩
 case round =>
  obtain ⟨j, s', rfl, hj, hat, hon, hmk⟩ := hrel
  have HAT := hide hat; have HON := hide hon; have HMK := hide hmk
  clear hat hon hmk
  by_cases hlt : j < m
  ·obtain ⟨b, off, x, rfl, hb, _, hx, _, c0⟩ := at_str (HON.out.sl HT.out hS2) hlt
   have HD := hide (show markC (ts.drop (j + 1)) (if isC (.mk x) s' = true then popC s' else failC 7 s') = markC ts s by rw [← HMK.out, drop_at hx, markC_cons])
   have HI := hide (dIs HAT.out x)
   clear hx HMK
   obtain ⟨q, hq⟩ : ∃ q, isC (.mk x) s' = q := ⟨_, rfl⟩
   rw [hq] at HI HD
   clear hq
   cases q
   ·go_wp2_with (first | (go_at_call 153; refine HI.out.mono ?_; rintro e w1 ⟨rfl, hat1, hon1⟩) | (go_at_call 48; refine (dFail hat1 7).mono ?_; rintro e w2 ⟨rfl, hat, hon⟩))
    go_roundw
    case rel => exact ⟨j + 1, _, by go_num, by omega, hat, (HON.out.trans hon1).trans hon, HD.out⟩
    case measure => simp [intOf]; omega
   ·go_wp2_with (first | (go_at_call 153; refine HI.out.mono ?_; rintro e w1 ⟨rfl, hat1, hon1⟩))
    go_roundw
    case rel => exact ⟨j + 1, _, by go_num, by omega, hat1, HON.out.trans hon1, HD.out⟩
    case measure => simp [intOf]; omega
  ·have HE := hide (show s' = markC ts s by rw [← HMK.out, drop_end HT.out.len hlt]; rfl)
   clear HMK
   go_wp2_with fail
   go_end0
   exact ⟨rfl, HE.out ▸ HAT.out, HON.out⟩
set_option maxRecDepth 100000 in
set_option maxHeartbeats 4000000 in
theorem dErr (h : DocAt w S c s) : Calls Tryz.prog 53 #[.pointer (some ⟨c, 0, none⟩)] w (RetX (errV s) w) := by
 have H := hide h
 have hlt := h.lt
 have hnx := h.next
 have k1 := h.at_.choose_spec.choose_spec.choose_spec.2.1
 clear h
 cases hnx with
 | bad he =>
  have k2 := H.out.at_.choose_spec.choose_spec.choose_spec.2.2.1
  have k3 := H.out.at_.choose_spec.choose_spec.choose_spec.2.2.2.1
  have hg : errV s = .tuple #[.int .i64 s.line, .int .i64 s.col, .int .i64 s.e] := by unfold errV errC; rw [if_pos (by simpa using he)]
  rw [hg]
  clear hg
  go_enter Tryz.func53, Tryz.ntmps53
  go_wp2_with fail
  refine wp_region_ext (by kernel_rfl) (by kernel_rfl) ?_
  repeat (any_goals (first | go_big_quiet_step ((fail)) | quiet_step ((fail))))
  refine wpQuiet_nil ?_
  rintro _ ⟨uq, rfl⟩
  go_wp2_with fail
  go_ret3
  exact ⟨rfl, _, rfl⟩
 | none he hw k A k0 =>
  rw [he] at k1
  have hg : errV s = .tuple #[.int .i64 0, .int .i64 0, .int .i64 0] := by unfold errV errC; rw [if_neg (by omega), hw]
  rw [hg]
  clear hg he hw
  go_enter Tryz.func53, Tryz.ntmps53
  go_wp2_with fail
  go_ret3
  exact ⟨rfl, ext_refl _⟩
 | some x l he hw n k b off k0 hn hnk hn9 hb hcb c0 c1 c2 c3 c4 =>
  rw [he] at k1
  have hg : errV s = .tuple #[.int .i64 x.line, .int .i64 x.col, .int .i64 7] := by unfold errV errC; rw [if_neg (by omega), hw]
  rw [hg]
  clear hg he hw
  go_enter Tryz.func53, Tryz.ntmps53
  go_wp2_with fail
  refine wp_region_ext (by kernel_rfl) (by kernel_rfl) ?_
  repeat (any_goals (first | go_big_quiet_step ((fail)) | quiet_step ((fail))))
  refine wpQuiet_nil ?_
  rintro _ ⟨uq, rfl⟩
  go_wp2_with fail
  go_ret3
  exact ⟨rfl, _, rfl⟩
end
end Go.Proofs.YtljglhaeonbfoaaGreatDoor
namespace Go.Proofs.YtljglhaeonbfoaaGreatDoor
open Go.RowKit
theorem compK_last : ∀ (l : List Word) (b : Bool), lastE b l = (match (compK b l).getLast? with | some y => endW y | none => b)
 | [], _ => rfl
 | x :: l, b => by
  rw [compK_cons]
  show lastE (endW x) l = _
  by_cases h : b = true ∧ endW x = true
  ·rw [if_pos h, h.2, compK_last l true, h.1]
  ·rw [if_neg h, compK_last l (endW x)]
   cases hc : compK (endW x) l with
   | nil => rfl
   | cons y r =>
    rw [List.getLast?_cons_cons]
    cases hd : (y :: r).getLast? with
    | none => simp at hd
    | some z => rfl
theorem endW_kind {x : Word} (h : x.kind = 1 ∨ x.kind = 2 ∨ x.kind = 3 ∨ x.kind = 4) : endW x = (x.kind == 4) := by
 unfold endW hasW
 rcases h with h | h | h | h <;> rw [h] <;> rfl
def OverD (s : ByteArray) (w : World) (e : Ending) (w' : World) : Prop := ∃ c, e = .returned (.pointer (some ⟨c, 0, none⟩)) ∧ DocAt w' (fun b => w.heap.size ≤ b ∧ b < c) c (overT s) ∧ w.heap.size ≤ c ∧ Below w.heap.size w w'
set_option maxRecDepth 100000 in
set_option maxHeartbeats 40000000 in
theorem dOver1 (s : ByteArray) (w : World) (hs : s.size ≤ 17179869184) : Calls Tryz.prog 46 #[.string s] w (OverD s w) := by
 obtain ⟨i0, hi, hz, hz1, hz2⟩ := info_parts info_Word1
 have HI0 := hide hi; have HZ := hide hz; have HZ1 := hide hz1; have HZ2 := hide hz2
 clear hi hz hz1 hz2
 have hk := fun x hx => (read_kinds s) x hx
 have hcnt := read_count s (by omega)
 obtain ⟨R, hR⟩ : ∃ R, readR s = R := ⟨_, rfl⟩
 have HR := hide (show Calls Tryz.prog 100 #[.string s] w (RetRd w R) by rw [← hR, readR_ref]; exact read1_any s w hs)
 have HRR := hide hR
 have HK := hide (show ∀ x ∈ R.words, x.kind = 1 ∨ x.kind = 2 ∨ x.kind = 3 ∨ x.kind = 4 by rw [← hR]; exact hk)
 have HCNT := hide (show R.words.length ≤ 1099511627776 by rw [← hR]; exact hcnt)
 clear hR hk hcnt
 obtain ⟨ws, rl, rc, re⟩ := R
 simp only at HK HCNT
 go_enter Tryz.func46, Tryz.ntmps46
 go_wp2_with (first | (go_at_call 100; refine HR.out.mono ?_; rintro e _ ⟨A1, n, c1, rfl, hS1, u1, rfl⟩; dsimp only; refine Hd.out ?_))
 refine hide ?_
 obtain ⟨W1, hW1⟩ : ∃ W', w.ext u1 = W' := ⟨_, rfl⟩
 have HB1 := hide (show Below w.heap.size w W1 by rw [← hW1]; exact (Below.refl _ _).ext (Nat.le_refl _) u1)
 have HS1 := hide (show Sl W1 (fun b => b < W1.heap.size) A1 n c1 ws by rw [← hW1] at *; exact hS1.more fun b hb h => hb)
 have hsz1 : w.heap.size ≤ W1.heap.size := HB1.out.size
 rw [hW1]
 have hn := HS1.out.nle
 clear hW1 hS1 HR
 by_cases he : re = 0
 ·subst he
  have HOV := hide (show overT s = ⟨dropEnd (compK true ws), 0, 0, 0⟩ by unfold overT; rw [HRR.out]; exact if_neg (by simp))
  go_wp2_with fail
  go_loopw [7, 8] (fun o i wr => ∃ (k na ca : Nat) (Ao : Option Addr), o = .slice Ao na ca ∧ i = .int .i64 k ∧ k ≤ n ∧ OwnL wr W1.heap.size 137 (fun _ => False) (.slice Ao na ca) (compK true (ws.take k)) ∧ (compK true (ws.take k)).length = na ∧ Below W1.heap.size W1 wr) (fun _ i _ => n - (intOf i).toNat)
  case atStart => exact ⟨0, 0, 0, none, rfl, rfl, Nat.zero_le _, OwnL.nil_ _ _ _ _, rfl, Below.refl _ _⟩
  case round =>
   obtain ⟨k, na, ca, Ao, rfl, rfl, hk, hown, hna, hb⟩ := hrel
   have HO := hide hown; have HNA := hide hna; have HB := hide hb
   have hszr : W1.heap.size ≤ wr.heap.size := hb.size
   have hna9 := (hown.sl (S' := fun _ => True) (fun _ _ _ => trivial)).nle
   clear hown hna hb
   by_cases hlt : k < n
   ·obtain ⟨b, off, x, rfl, hbb, hx, j0, j1, j2, j3, j4, c0, c1', c2, c3, c4⟩ := at_Word (HS1.out.below HB.out (fun b h => h)) hlt
    have HX := hide hx
    have hxk := HK.out x (List.mem_of_getElem? hx)
    have HEX := hide (endW_kind hxk)
    have HST := hide (show compK true (ws.take (k + 1)) = compK true (ws.take k) ++ if lastE true (ws.take k) = true ∧ endW x = true then [] else [x] by rw [take_at hx, compK_snoc])
    have HLA := hide (compK_last (ws.take k) true)
    have HY := hide (show ∀ W, Rep.is W (fun _ => False) x [.int .i64 x.kind, .string x.text, .int .i64 x.n, .int .i64 x.line, .int .i64 x.col] from fun W => Word.mk_ j0 j1 j2 j3 j4)
    have HLEN := hide (show (compK true (ws.take k)).length ≤ 1099511627776 by have := compK_len (ws.take k) true; have := HCNT.out; rw [List.length_take] at *; omega)
    obtain ⟨kd, tx, nn, ln, cl⟩ := x
    simp only at c0 c1' c2 c3 c4 HEX HY
    clear hx hxk j0 j1 j2 j3 j4
    by_cases h4 : kd = 4
    ·subst h4
     have hE : endW ⟨4, tx, nn, ln, cl⟩ = true := HEX.out
     rcases List.eq_nil_or_concat (compK true (ws.take k)) with hnil | ⟨l2, y, hcat⟩
     ·have hL : lastE true (ws.take k) = true := by rw [HLA.out, hnil]; rfl
      have hna0 : na = 0 := by rw [← HNA.out, hnil]; rfl
      subst hna0
      have HC := hide (show lastE true (ws.take k) = true ∧ endW ⟨4, tx, nn, ln, cl⟩ = true from ⟨hL, hE⟩)
      clear hnil hE hL
      go_wp2_with fail
      go_roundw
      case rel =>
       have e := HST.out
       rw [if_pos HC.out, List.append_nil] at e
       exact ⟨k + 1, _, _, _, rfl, by go_num, by omega, by rw [e]; exact HO.out, by rw [e]; exact HNA.out, HB.out⟩
      case measure => simp [intOf]; omega
     ·rw [List.concat_eq_append] at hcat
      have hna1 : na = l2.length + 1 := by rw [← HNA.out, hcat]; simp
      obtain ⟨b', off', y', rfl, hbb', hy', _, _, _, _, _, d0, _⟩ := at_Word (HO.out.sl (S' := fun _ => True) (fun _ _ _ => trivial)) (k := na - 1) (by omega)
      have hyy : y' = y := by rw [hcat, hna1] at hy'; simp at hy'; exact hy'.symm
      subst hyy
      have hyk := endW_kind (HK.out y' (List.mem_of_mem_take (compK_mem _ _ y' (by rw [hcat]; simp))))
      have HLL := hide (show lastE true (ws.take k) = endW y' by rw [HLA.out, hcat]; simp)
      have hpos : 0 < na := by omega
      have HN1 := hide hna1
      by_cases hy4 : y'.kind = 4
      ·rw [hy4] at d0
       have HC := hide (show lastE true (ws.take k) = true ∧ endW ⟨4, tx, nn, ln, cl⟩ = true from ⟨by rw [HLL.out, hyk, hy4]; rfl, hE⟩)
       clear hcat hE hyk hy' hna1 hy4
       go_wp2_with fail
       go_roundw
       case rel =>
        have e := HST.out
        rw [if_pos HC.out, List.append_nil] at e
        exact ⟨k + 1, _, _, _, rfl, by go_num, by omega, by rw [e]; exact HO.out, by rw [e]; exact HNA.out, HB.out⟩
       case measure => simp [intOf]; omega
      ·have HC := hide (show ¬ lastE true (ws.take k) = true by rw [HLL.out, hyk]; simp [hy4])
       clear hcat hE hyk hy' hna1
       go_wp2_with (at_builtin; refine wpList_push (α := Word) wr [.int .i64 4, .string tx, .int .i64 nn, .int .i64 ln, .int .i64 cl] 137 rfl (.tmp 50) (.tmp 55) 131 rfl W1.heap.size 137 i0 _ 48 Tryz.underlying131 HI0.out HZ.out HZ1.out HZ2.out rfl (by decide) (fun _ => False) (fun _ => False) (.slice (some ⟨b', off', none⟩) na ca) (compK true (ws.take k)) ⟨4, tx, nn, ln, cl⟩ rfl HO.out _ rfl rfl (HY.out _) (fun _ h => h) (fun _ _ h => h) (fun _ h => h.elim) (by have := HLEN.out; omega) (by have := HLEN.out; omega) hszr ?_)
       intro v' w1' hown' hg hrow
       have HBB := hide ((HB.out.alloc hszr (.cells #[.int .i64 4, .string tx, .int .i64 nn, .int .i64 ln, .int .i64 cl] 137)).grown hg (by simp; omega) (fun g e => (HO.out.below_ g e).1))
       have HOW := hide hown'
       obtain ⟨Av, cv, hv⟩ := hown'.form
       subst hv
       clear hown' hg hrow
       go_wp2_with fail
       go_roundw
       case rel =>
        have e := HST.out
        rw [if_neg (by exact fun c => HC.out c.1)] at e
        have hw := HOW.out
        rw [← e] at hw
        exact ⟨k + 1, _, cv, Av, rfl, by go_num, by omega, by rw [e] at hw ⊢; exact hw, by rw [e], HBB.out⟩
       case measure => simp [intOf]; omega
    ·have HC := hide (show ¬ endW ⟨kd, tx, nn, ln, cl⟩ = true by rw [HEX.out]; simp [h4])
     go_wp2_with (at_builtin; refine wpList_push (α := Word) wr [.int .i64 kd, .string tx, .int .i64 nn, .int .i64 ln, .int .i64 cl] 137 rfl (.tmp 50) (.tmp 55) 131 rfl W1.heap.size 137 i0 _ 48 Tryz.underlying131 HI0.out HZ.out HZ1.out HZ2.out rfl (by decide) (fun _ => False) (fun _ => False) (.slice Ao na ca) (compK true (ws.take k)) ⟨kd, tx, nn, ln, cl⟩ rfl HO.out _ rfl rfl (HY.out _) (fun _ h => h) (fun _ _ h => h) (fun _ h => h.elim) (by have := HLEN.out; omega) (by have := HLEN.out; omega) hszr ?_)
     intro v' w1' hown' hg hrow
     have HBB := hide ((HB.out.alloc hszr (.cells #[.int .i64 kd, .string tx, .int .i64 nn, .int .i64 ln, .int .i64 cl] 137)).grown hg (by simp; omega) (fun g e => (HO.out.below_ g e).1))
     have HOW := hide hown'
     obtain ⟨Av, cv, hv⟩ := hown'.form
     subst hv
     clear hown' hg hrow
     go_wp2_with fail
     go_roundw
     case rel =>
      have e := HST.out
      rw [if_neg (by exact fun c => HC.out c.2)] at e
      have hw := HOW.out
      rw [← e] at hw
      exact ⟨k + 1, _, cv, Av, rfl, by go_num, by omega, by rw [e] at hw ⊢; exact hw, by rw [e], HBB.out⟩
     case measure => simp [intOf]; omega
   ·have hk' : k = n := by omega
    have htk : ws.take k = ws := List.take_of_length_le (by have := HS1.out.len; omega)
    rw [htk] at HO HNA
    rcases List.eq_nil_or_concat (compK true ws) with hnil | ⟨l2, y, hcat⟩
    ·have hna0 : na = 0 := by rw [← HNA.out, hnil]; rfl
     subst hna0
     have HF := hide (show dropEnd (compK true ws) = compK true ws by rw [hnil]; rfl)
     clear hnil htk hk'
     go_wp2_with fail
     go_ret
     refine ⟨wr.heap.size, rfl, ?_, by omega, HB1.out.trans (Below.trans ⟨HB.out.os, HB.out.tape, HB.out.output, HB.out.size, fun b hb => HB.out.block b (by omega)⟩ ((Below.refl _ _).alloc (by omega) _))⟩
     rw [HOV.out, HF.out]
     exact ⟨⟨Ao, 0, ca, heap_alloc_new wr _, ((HO.out.sl (S' := fun b => w.heap.size ≤ b ∧ b < wr.heap.size) (fun b hb h => by rcases h with h | h; exact h.elim; omega)).alloc _)⟩, ⟨fun x hx => HK.out x (compK_mem _ _ x hx), fun _ => ⟨rfl, rfl⟩⟩, by omega⟩
    ·rw [List.concat_eq_append] at hcat
     have hna1 : na = l2.length + 1 := by rw [← HNA.out, hcat]; simp
     obtain ⟨b', off', y', rfl, hbb', hy', _, _, _, _, _, d0, _⟩ := at_Word (HO.out.sl (S' := fun _ => True) (fun _ _ _ => trivial)) (k := na - 1) (by omega)
     have hyy : y' = y := by rw [hcat, hna1] at hy'; simp at hy'; exact hy'.symm
     subst hyy
     have hyk := endW_kind (HK.out y' (compK_mem _ _ y' (by rw [hcat]; simp)))
     have hpos : 0 < na := by omega
     have hnac := (HO.out.sl (S' := fun _ => True) (fun _ _ _ => trivial)).2.1
     have HN1 := hide hna1
     by_cases hy4 : y'.kind = 4
     ·have HF := hide (show dropEnd (compK true ws) = l2 by unfold dropEnd; rw [hcat]; simp [hyk, hy4])
      have HTK := hide (show (compK true ws).take (na - 1) = l2 by rw [hcat, hna1]; simp)
      rw [hy4] at d0
      clear hcat hyk hy' hna1 hy4 htk hk'
      go_wp2_with fail
      go_ret
      refine ⟨wr.heap.size, rfl, ?_, by omega, HB1.out.trans (Below.trans ⟨HB.out.os, HB.out.tape, HB.out.output, HB.out.size, fun b hb => HB.out.block b (by omega)⟩ ((Below.refl _ _).alloc (by omega) _))⟩
      rw [HOV.out, HF.out]
      have hsl := (HO.out.sl (S' := fun b => w.heap.size ≤ b ∧ b < wr.heap.size) (fun b hb h => by rcases h with h | h; exact h.elim; omega)).take_ (k := na - 1) (by omega)
      rw [HTK.out] at hsl
      exact ⟨⟨_, na - 1, ca, heap_alloc_new wr _, hsl.alloc _⟩, ⟨fun x hx => HK.out x (compK_mem _ _ x (List.mem_of_mem_take (HTK.out ▸ hx))), fun _ => ⟨rfl, rfl⟩⟩, by omega⟩
     ·have HF := hide (show dropEnd (compK true ws) = compK true ws by unfold dropEnd; rw [hcat]; simp [hyk, hy4])
      clear hcat hyk hy' hna1 htk hk'
      go_wp2_with fail
      go_ret
      refine ⟨wr.heap.size, rfl, ?_, by omega, HB1.out.trans (Below.trans ⟨HB.out.os, HB.out.tape, HB.out.output, HB.out.size, fun b hb => HB.out.block b (by omega)⟩ ((Below.refl _ _).alloc (by omega) _))⟩
      rw [HOV.out, HF.out]
      exact ⟨⟨_, na, ca, heap_alloc_new wr _, ((HO.out.sl (S' := fun b => w.heap.size ≤ b ∧ b < wr.heap.size) (fun b hb h => by rcases h with h | h; exact h.elim; omega)).alloc _)⟩, ⟨fun x hx => HK.out x (compK_mem _ _ x hx), fun _ => ⟨rfl, rfl⟩⟩, by omega⟩
 ·have HOV := hide (show overT s = ⟨[], re, rl, rc⟩ by unfold overT; rw [HRR.out]; exact if_pos he)
  have heb : (re == 0) = false := by simp [he]
  clear he
  go_wp2_with fail
  go_ret
  refine ⟨W1.heap.size, rfl, ?_, hsz1, HB1.out.alloc hsz1 _⟩
  rw [HOV.out]
  exact ⟨⟨none, 0, 0, heap_alloc_new W1 _, Sl.nil⟩, ⟨fun _ h => (by cases h), fun e => absurd e (by simpa using heb)⟩, by omega⟩
end Go.Proofs.YtljglhaeonbfoaaGreatDoor
