/- LineAll: the plain law: words that are got one by one. LineBlank: the plain law: a text with more ends between its lines lexes alike. LineBlank: the plain law, on bytes. Texts of lines of words (laws 04, 07): what is shown of them lexes to them. -/
import Derived.Test.YtljglhaeonbfoaaGreatDoorL2i
set_option linter.unusedSimpArgs false
set_option linter.unusedVariables false
namespace Go.Proofs.YtljglhaeonbfoaaGreatDoor
section
variable {ws : List Word} {k : Nat} {b : Bool} {l : List Word} {x : Word}
end
end Go.Proofs.YtljglhaeonbfoaaGreatDoor
namespace Go.Proofs.YtljglhaeonbfoaaGreatDoor
def RelW (a b : List Word) : Prop := (compK true a).map core = (compK true b).map core ∧ lastE true a = lastE true b
theorem core_end {x y : Word} (h : core x = core y) : endW x = endW y := by
 have : hasW x = hasW y := by
  unfold core at h
  injection h with h1 h
  injection h with h2 h3
  unfold hasW; rw [h1, h2, h3]
 unfold endW; rw [this]
def SimR (r r' : ReadR) : Prop := r.err = r'.err ∧ (r.err = 0 → RelW r.words r'.words)
end Go.Proofs.YtljglhaeonbfoaaGreatDoor
namespace Go.Proofs.YtljglhaeonbfoaaGreatDoor
def mkB (l : List UInt8) : ByteArray := ⟨l.toArray⟩
theorem mkB_list (l : List UInt8) : (mkB l).data.toList = l := by unfold mkB; simp
theorem mkB_size (l : List UInt8) : (mkB l).size = l.length := by rw [size_list, mkB_list]
def CurSim (a b : Cur) : Prop := a.ws.map core = b.ws.map core ∧ a.e = b.e
theorem drop_core {a b : List Word} (h : a.map core = b.map core) : (dropEnd a).map core = (dropEnd b).map core := by
 have hl : a.getLast?.map core = b.getLast?.map core := by rw [← List.getLast?_map, ← List.getLast?_map, h]
 unfold dropEnd
 cases ha : a.getLast? with
 | none =>
  rw [ha] at hl
  cases hb : b.getLast? with
  | none => exact h
  | some y => rw [hb] at hl; cases hl
 | some x =>
  rw [ha] at hl
  cases hb : b.getLast? with
  | none => rw [hb] at hl; cases hl
  | some y =>
   rw [hb] at hl
   simp only [Option.map_some, Option.some.injEq] at hl
   simp only [core_end hl]
   split
   ·rw [List.map_dropLast, List.map_dropLast, h]
   ·exact h
theorem sim_mk {a b : List Word} (h : a.map core = b.map core) : CurSim ⟨a, 0, 0, 0⟩ ⟨b, 0, 0, 0⟩ := ⟨h, rfl⟩
theorem sim_bad {e x y x' y' : Int} : CurSim ⟨[], e, x, y⟩ ⟨[], e, x', y'⟩ := ⟨rfl, rfl⟩
theorem over_sim (r r' : ReadR) (h : SimR r r') : CurSim (if r.err ≠ 0 then ⟨[], r.err, r.line, r.col⟩ else ⟨dropEnd (compK true r.words), 0, 0, 0⟩) (if r'.err ≠ 0 then ⟨[], r'.err, r'.line, r'.col⟩ else ⟨dropEnd (compK true r'.words), 0, 0, 0⟩) := by
 obtain ⟨he, hw⟩ := h
 rw [← he]
 by_cases h : r.err = 0
 ·obtain ⟨h1, _⟩ := hw h
  rw [if_neg (by simp [h]), if_neg (by simp [h])]
  exact sim_mk (drop_core h1)
 ·rw [if_pos h, if_pos h]
  exact sim_bad
section
variable {a b : Cur}
theorem CurSim.more (h : CurSim a b) : moreC a = moreC b := by
 unfold moreC
 rw [h.2]
 have : a.ws.isEmpty = b.ws.isEmpty := by
  have := congrArg List.isEmpty h.1
  simpa [List.isEmpty_map] using this
 rw [this]
theorem CurSim.head (h : CurSim a b) : (headC a = none ∧ headC b = none) ∨ ∃ x y, headC a = some x ∧ headC b = some y ∧ core x = core y := by
 unfold headC
 rw [h.2]
 split
 ·have hl : a.ws.head?.map core = b.ws.head?.map core := by rw [← List.head?_map, ← List.head?_map, h.1]
  cases ha : a.ws.head? with
  | none =>
   cases hb : b.ws.head? with
   | none => exact .inl ⟨rfl, rfl⟩
   | some y => rw [ha, hb] at hl; cases hl
  | some x =>
   cases hb : b.ws.head? with
   | none => rw [ha, hb] at hl; cases hl
   | some y =>
    rw [ha, hb] at hl
    exact .inr ⟨x, y, rfl, rfl, by simpa using hl⟩
 ·exact .inl ⟨rfl, rfl⟩
theorem CurSim.pop (h : CurSim a b) : CurSim (popC a) (popC b) := ⟨by unfold popC; simp only; rw [List.map_tail, List.map_tail, h.1], h.2⟩
theorem failC_ws (x : Int) (s : Cur) : (failC x s).ws = s.ws := by
 unfold failC
 split
 ·rfl
 ·split <;> rfl
theorem failC_e (x : Int) (s : Cur) : (failC x s).e = if s.e ≠ 0 ∨ x = 0 then s.e else x := by
 unfold failC
 split
 ·rfl
 ·split <;> rfl
theorem CurSim.fail (h : CurSim a b) (x : Int) : CurSim (failC x a) (failC x b) := ⟨by rw [failC_ws, failC_ws]; exact h.1, by rw [failC_e, failC_e, h.2]⟩
theorem core_parts {x y : Word} (h : core x = core y) : x.kind = y.kind ∧ x.text = y.text ∧ x.n = y.n := by
 unfold core at h
 injection h with h1 h
 injection h with h2 h3
 exact ⟨h1, h2, h3⟩
theorem CurSim.is (h : CurSim a b) (v : Has) : isC v a = isC v b := by
 unfold isC
 rcases h.head with ⟨h1, h2⟩ | ⟨x, y, h1, h2, h3⟩
 ·rw [h1, h2]
 ·rw [h1, h2]
  obtain ⟨k1, k2, k3⟩ := core_parts h3
  have : hasW x = hasW y := by unfold hasW; rw [k1, k2, k3]
  simp only [this]
theorem CurSim.name (h : CurSim a b) : (nameC a).1 = (nameC b).1 ∧ CurSim (nameC a).2 (nameC b).2 := by
 unfold nameC
 rcases h.head with ⟨h1, h2⟩ | ⟨x, y, h1, h2, h3⟩
 ·rw [h1, h2]; exact ⟨rfl, h.fail 7⟩
 ·rw [h1, h2]
  obtain ⟨k1, k2, k3⟩ := core_parts h3
  simp only [k1, k2]
  split
  ·exact ⟨rfl, h.pop⟩
  ·exact ⟨rfl, h.fail 7⟩
theorem CurSim.num (h : CurSim a b) (lo hi : Int) : (numC lo hi a).1 = (numC lo hi b).1 ∧ CurSim (numC lo hi a).2 (numC lo hi b).2 := by
 unfold numC
 rcases h.head with ⟨h1, h2⟩ | ⟨x, y, h1, h2, h3⟩
 ·rw [h1, h2]; exact ⟨rfl, h.fail 7⟩
 ·rw [h1, h2]
  obtain ⟨k1, k2, k3⟩ := core_parts h3
  simp only [k1, k3]
  split
  ·split
   ·exact ⟨rfl, h.fail 3⟩
   ·exact ⟨rfl, h.pop⟩
  ·exact ⟨rfl, h.fail 7⟩
theorem CurSim.mark : ∀ (l : List ByteArray) {a b : Cur}, CurSim a b → CurSim (markC l a) (markC l b)
 | [], _, _, h => h
 | t :: l, a, b, h => by
  unfold markC
  apply CurSim.mark l
  rw [h.is]
  split
  ·exact h.pop
  ·exact h.fail 7
theorem CurSim.end_ (h : CurSim a b) : CurSim (endC a) (endC b) := by
 unfold endC
 rcases h.head with ⟨h1, h2⟩ | ⟨x, y, h1, h2, h3⟩
 ·rw [h1, h2]; exact h
 ·rw [h1, h2]
  simp only [(core_parts h3).1]
  split
  ·exact h.pop
  ·exact h.fail 7
theorem CurSim.err (h : CurSim a b) : (errC a).2.2 = (errC b).2.2 := by
 unfold errC
 rw [h.2]
 split
 ·rfl
 ·have hl := congrArg List.length h.1
  rw [List.length_map, List.length_map] at hl
  cases ha : a.ws with
  | nil => cases hb : b.ws with
   | nil => rfl
   | cons y l => rw [ha, hb] at hl; simp at hl
  | cons x k => cases hb : b.ws with
   | nil => rw [ha, hb] at hl; simp at hl
   | cons y l => rfl
end
end Go.Proofs.YtljglhaeonbfoaaGreatDoor
namespace Go.Proofs.YtljglhaeonbfoaaGreatDoor
abbrev nmW (t : ByteArray) : Word := ⟨1, t, 0, 0, 0⟩
abbrev nuW (n : Int) : Word := ⟨2, itoaB n, n, 0, 0⟩
abbrev mkW (t : ByteArray) : Word := ⟨3, t, 0, 0, 0⟩
abbrev eolW : Word := ⟨4, ByteArray.empty, 0, 0, 0⟩
def tailX : List ByteArray → ByteArray
 | [] => ByteArray.empty
 | y :: l => (⟨#[32]⟩ ++ y) ++ tailX l
def joinX : List ByteArray → ByteArray
 | [] => ByteArray.empty
 | x :: l => x ++ tailX l
def lineX (ps : List Word) : ByteArray := joinX (ps.map (·.text)) ++ ⟨#[10]⟩
def linesX : ByteArray → List (List Word) → ByteArray
 | acc, [] => acc
 | acc, p :: l => linesX (acc ++ lineX p) l
structure WOk (w : Word) : Prop where
 r : rightW w = true
 k : w.kind ≠ 4
def LOk (L : List (List Word)) : Prop := ∀ ps ∈ L, ps ≠ [] ∧ ∀ p ∈ ps, WOk p
def wsX : List (List Word) → List Word
 | [] => []
 | p :: l => p ++ (eolW :: wsX l)
theorem right_eolW : rightW eolW = true := by decide +kernel
theorem show_tailX : ∀ (ps : List Word) (l : List Word) (out : ByteArray), (∀ p ∈ ps, WOk p) → showF false (ps ++ l) out = showF false l (out ++ tailX (ps.map (·.text)))
 | [], l, out, _ => by show showF false l out = showF false l (out ++ ByteArray.empty); rw [ByteArray.append_empty]
 | p :: ps, l, out, h => by
  have hp := h p (by simp)
  rw [List.cons_append, showF_cons, if_neg (by rw [hp.r]; decide), if_neg hp.k, if_neg (by decide), show_tailX ps l _ fun q hq => h q (List.mem_cons_of_mem _ hq)]
  show showF false l (_ ++ tailX (ps.map (·.text))) = showF false l (out ++ ((⟨#[32]⟩ ++ p.text) ++ tailX (ps.map (·.text))))
  simp only [ByteArray.append_assoc]
theorem show_lineX (ps : List Word) (l : List Word) (out : ByteArray) (hne : ps ≠ []) (h : ∀ p ∈ ps, WOk p) : showF true (ps ++ (eolW :: l)) out = showF true l (out ++ lineX ps) := by
 cases ps with
 | nil => exact absurd rfl hne
 | cons p ps =>
  have hp := h p (by simp)
  rw [List.cons_append, showF_cons, if_neg (by rw [hp.r]; decide), if_neg hp.k, if_pos rfl, show_tailX ps _ _ fun q hq => h q (List.mem_cons_of_mem _ hq)]
  rw [showF_cons, if_neg (by rw [right_eolW]; decide), if_pos rfl]
  show showF true l _ = showF true l (out ++ ((p.text ++ tailX (ps.map (·.text))) ++ ⟨#[10]⟩))
  simp only [ByteArray.append_assoc]
theorem show_linesX : ∀ (L : List (List Word)) (acc : ByteArray), LOk L → showF true (wsX L) acc = some (linesX acc L)
 | [], acc, _ => rfl
 | ps :: L, acc, h => by
  have hp := h ps (by simp)
  show showF true (ps ++ (eolW :: wsX L)) acc = _
  rw [show_lineX ps _ _ hp.1 hp.2, show_linesX L _ fun q hq => h q (List.mem_cons_of_mem _ hq)]
  rfl
def wsB (f : List (List Word) → List Word) : List (List Word) → List Word
 | [] => []
 | p :: l => eolW :: f (p :: l)
def wsC : List (List Word) → List Word
 | [] => []
 | p :: l => p ++ (match l with | [] => [] | q :: m => eolW :: wsC (q :: m))
theorem wsC_cons (p : List Word) (l : List (List Word)) : wsC (p :: l) = p ++ wsB wsC l := by cases l <;> rfl
theorem WOk.end_ {w : Word} (h : WOk w) : endW w = false := by
 have h1 := h.r
 have h2 := h.k
 unfold rightW at h1
 unfold endW
 obtain ⟨k, t, n, l, c⟩ := w
 simp only at h1 h2 ⊢
 unfold hasW
 simp only
 by_cases e1 : k = 1
 ·subst e1; rfl
 ·by_cases e2 : k = 2
  ·subst e2; rfl
  ·by_cases e3 : k = 3
   ·subst e3; rfl
   ·rw [if_neg e1, if_neg e2, if_neg e3] at h1
    simp only [Bool.and_eq_true, beq_iff_eq] at h1
    exact absurd h1.1.1 h2
theorem compK_coreX : ∀ (a b : List Word) (c : Bool), a.map core = b.map core → (compK c a).map core = (compK c b).map core ∧ lastE c a = lastE c b
 | [], [], _, _ => ⟨rfl, rfl⟩
 | [], _ :: _, _, h => by cases h
 | _ :: _, [], _, h => by cases h
 | x :: a, y :: b, c, h => by
  rw [List.map_cons, List.map_cons] at h
  injection h with h1 h2
  have he := core_end h1
  obtain ⟨i1, i2⟩ := compK_coreX a b (endW y) h2
  refine ⟨?_, ?_⟩
  ·rw [compK_cons, compK_cons, he]
   by_cases hc : c = true ∧ endW y = true
   ·rw [if_pos hc, if_pos hc]
    exact (compK_coreX a b true h2).1
   ·rw [if_neg hc, if_neg hc, List.map_cons, List.map_cons, h1, i1]
  ·show lastE (endW x) a = lastE (endW y) b
   rw [he]
   exact i2
theorem compK_wordsX : ∀ (ps : List Word) (l : List Word), (∀ p ∈ ps, WOk p) → compK false (ps ++ l) = ps ++ compK false l
 | [], l, _ => rfl
 | p :: ps, l, h => by
  have hp := (h p (by simp)).end_
  rw [List.cons_append, compK_cons, if_neg (by rw [hp]; simp), hp, compK_wordsX ps l fun q hq => h q (List.mem_cons_of_mem _ hq)]
  rfl
theorem compK_linesX : ∀ (L : List (List Word)), LOk L → compK true (wsX L) = wsX L
 | [], _ => rfl
 | ps :: L, h => by
  obtain ⟨hne, hp⟩ := h ps (by simp)
  have ih := compK_linesX L fun q hq => h q (List.mem_cons_of_mem _ hq)
  cases ps with
  | nil => exact absurd rfl hne
  | cons p ps =>
   have hpe := (hp p (by simp)).end_
   show compK true (p :: (ps ++ (eolW :: wsX L))) = p :: (ps ++ (eolW :: wsX L))
   rw [compK_cons, if_neg (by rw [hpe]; simp), hpe, compK_wordsX ps _ fun q hq => hp q (List.mem_cons_of_mem _ hq), compK_cons, if_neg (by simp)]
   rw [show endW eolW = true from rfl, ih]
theorem wsX_last : ∀ (p : List Word) (L : List (List Word)), wsX (p :: L) = wsC (p :: L) ++ [eolW]
 | p, [] => by show p ++ [eolW] = (p ++ []) ++ [eolW]; rw [List.append_nil]
 | p, q :: L => by
  show p ++ (eolW :: wsX (q :: L)) = (p ++ (eolW :: wsC (q :: L))) ++ [eolW]
  rw [wsX_last q L]; simp
theorem drop_linesX (L : List (List Word)) : dropEnd (wsX L) = wsC L := by
 cases L with
 | nil => rfl
 | cons p L =>
  rw [wsX_last]
  unfold dropEnd
  rw [List.getLast?_append]
  show (if endW eolW = true then _ else _) = _
  rw [if_pos (show endW eolW = true from rfl)]
  simp
abbrev CX (l : List Word) : Cur := ⟨l, 0, 0, 0⟩
theorem over_linesX {L : List (List Word)} (hk : LOk L) : CurSim (overT (linesX ByteArray.empty L)) (CX (wsC L)) := by
 obtain ⟨h1, h2, _⟩ := back_shown (show_linesX L ByteArray.empty hk)
 have hs : SimR (readR (linesX ByteArray.empty L)) ⟨wsX L, 0, 0, 0⟩ := ⟨h1, fun _ => compK_coreX _ _ true h2⟩
 have hv := over_sim _ _ hs
 simp only at hv
 rw [compK_linesX _ hk, drop_linesX, if_neg (show ¬ ((0 : Int) ≠ 0) by simp)] at hv
 exact hv
theorem endC_B (L : List (List Word)) : endC (CX (wsB wsC L)) = CX (wsC L) := by cases L <;> rfl
theorem ends_B (L : List (List Word)) : endsC (CX (wsB wsC L)) = true := by cases L <;> rfl
theorem is_nmX (t u : ByteArray) (r : List Word) : isC (.nm t) (CX (nmW u :: r)) = (u.toList == t.toList) := rfl
theorem is_mkX (t u : ByteArray) (r : List Word) : isC (.mk t) (CX (mkW u :: r)) = (u.toList == t.toList) := rfl
theorem num_hitX {lo hi n : Int} (h0 : lo ≤ n) (h1 : n ≤ hi) (r : List Word) : numC lo hi (CX (nuW n :: r)) = (n, CX r) := by
 show (if (2 : Int) = 2 then (if n < lo ∨ hi < n then (0, failC 3 (CX (nuW n :: r))) else (n, popC (CX (nuW n :: r)))) else (0, failC 7 (CX (nuW n :: r)))) = _
 rw [if_pos rfl, if_neg (by omega)]
 rfl
theorem mark_hitX (t : ByteArray) (r : List Word) : markC [t] (CX (mkW t :: r)) = CX r := by
 unfold markC markC
 rw [is_mkX, if_pos (by simp)]
 rfl
theorem ok_numX {n : Int} (h1 : -1099511627776 ≤ n) (h2 : n ≤ 1099511627776) : WOk (nuW n) := by
 refine ⟨?_, by show (2 : Int) ≠ 4; decide⟩
 unfold rightW
 simp
 omega
end Go.Proofs.YtljglhaeonbfoaaGreatDoor
