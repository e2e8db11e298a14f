/- Plain law: what a step keeps. Walks: MrunSafe's helpers. Walk: MrunSafe's cells: what is at all places. Walk: MrunSafe's home: is each saved register as it was. What MrunSafe holds between its steps. MrunSafe's round: its parts, and what each leaves. -/
import Derived.Test.YtkjipgelbjaggaaM46
import Derived.Test.YtkjipgelbjaggaaM48
import Derived.Deep.Cut
set_option linter.unusedSimpArgs false
set_option linter.unusedVariables false
namespace Go.Proofs.Ytkjipgelbjaggaa
open Go.RowKit Go.Maps
def insAt (r : RunS) : Ins := (blockR r).ins.getD r.ins.toNat default
def readsAt (r : RunS) : List Loc := if r.ins < (blockR r).ins.length then readsP r.m (insAt r) else needsP (blockR r).term
def writesAt (r : RunS) : List Loc := if r.ins < (blockR r).ins.length then writesP r.m (insAt r) else []
def opAt (r : RunS) : Int := if r.ins < (blockR r).ins.length then (insAt r).op else 0
theorem setAll_not {v : Int} {l : Loc} : ∀ {ls : List Loc} {f : Loc → Option Int}, l ∉ ls → setAll v f ls l = f l
  | [], _, _ => rfl
  | x :: ls, f, h => by
    rw [List.mem_cons, not_or] at h
    show setAll v (upd f x (some v)) ls l = _
    rw [setAll_not h.2]; unfold upd; rw [if_neg h.1]
theorem setAll_mem {v : Int} {l : Loc} : ∀ {ls : List Loc} {f : Loc → Option Int}, l ∈ ls → setAll v f ls l = some v
  | x :: ls, f, h => by
    show setAll v (upd f x (some v)) ls l = _
    by_cases hl : l ∈ ls
    · exact setAll_mem hl
    · rw [setAll_not hl]
      rcases List.mem_cons.1 h with e | e
      · subst e; unfold upd; rw [if_pos rfl]
      · exact absurd e hl
theorem delAll_not {l : Loc} : ∀ {ls : List Int} {f : Loc → Option Int}, (l.slot = true ∨ l.n ∉ ls) → delAll f ls l = f l
  | [], _, _ => rfl
  | x :: ls, f, h => by
    show delAll (upd f ⟨false, x⟩ none) ls l = _
    rw [delAll_not (h.imp id fun h => fun e => h (List.mem_cons_of_mem _ e))]
    unfold upd; rw [if_neg]
    rintro rfl
    rcases h with h | h
    · cases h
    · exact h (List.mem_cons_self ..)
theorem delAll_mem {n : Int} : ∀ {ls : List Int} {f : Loc → Option Int}, n ∈ ls → delAll f ls ⟨false, n⟩ = none
  | x :: ls, f, h => by
    show delAll (upd f ⟨false, x⟩ none) ls _ = _
    by_cases hl : n ∈ ls
    · exact delAll_mem hl
    · rw [delAll_not (.inr hl)]
      rcases List.mem_cons.1 h with e | e
      · subst e; unfold upd; rw [if_pos rfl]
      · exact absurd e hl
theorem valueR_cells {r : RunS} {i : Ins} (h : i.op ≠ 13) : (valueR r i).1.cells = r.cells ∧ (valueR r i).1.calls = r.calls := by
  unfold valueR
  rw [if_neg h]
  split
  · exact ⟨rfl, rfl⟩
  split
  · split <;> exact ⟨rfl, rfl⟩
  split
  · split <;> exact ⟨rfl, rfl⟩
  split <;> exact ⟨rfl, rfl⟩
theorem valueR_memory {r : RunS} {i : Ins} (h : i.op ≠ 12) : (valueR r i).1.mem = r.mem := by
  unfold valueR
  rw [if_neg h]
  split
  · rfl
  split
  · split <;> exact (callR9_mem r i).1
  split
  · split <;> rfl
  split <;> rfl
theorem valueR_inserted {r : RunS} {i : Ins} (h : insertedB i.op = true) : (valueR r i).2.2 = true := by
  have h' : i.op = 15 ∨ i.op = 16 ∨ i.op = 17 := by unfold insertedB at h; simp at h; omega
  unfold valueR
  rw [if_neg (by omega), if_neg (by omega), if_neg (by omega), if_neg (by omega), if_pos h]
theorem valueR_call {r : RunS} {i : Ins} (h : i.op = 13) : (valueR r i).2.2 = true ∧ (valueR r i).1.cells = delAll r.cells (lostM r.m) ∨ (valueR r i).2.2 = false ∧ (valueR r i).1.cells = r.cells := by
  unfold valueR
  rw [if_neg (by omega), if_pos h]
  unfold callR9
  by_cases ha : r.answers = []
  · rw [if_pos ha]; exact .inr ⟨rfl, rfl⟩
  · rw [if_neg ha]; exact .inl ⟨rfl, rfl⟩
theorem writesP_call9 {m : Machine} {i : Ins} (h : i.op = 13) : writesP m i = [⟨false, m.ret⟩] := by
  unfold writesP; rw [h, if_pos (by decide)]
/-- a lost place: a register that is not saved -/
def lostAt (m : Machine) (l : Loc) : Bool := !l.slot && !hasI l.n m.saved
theorem insR9_frame {r : RunS} {i : Ins} {l : Loc} (hw : l ∉ writesP r.m i) (hl : i.op ≠ 13 ∨ lostAt r.m l = false) : (insR9 r i).1.cells l = r.cells l := by
  have hm : (valueR r i).1.m = r.m := (valueR_frame r i).2.2.1
  have hv : (valueR r i).1.cells l = r.cells l := by
    by_cases h13 : i.op = 13
    · rcases valueR_call (r := r) h13 with ⟨_, e⟩ | ⟨_, e⟩
      · rw [e]
        refine delAll_not ?_
        rcases hl with h | h
        · exact absurd h13 h
        · unfold lostAt at h
          cases hs : l.slot
          · right
            rw [hs] at h
            simp only [Bool.not_false, Bool.true_and, Bool.not_eq_false'] at h
            unfold lostM
            split
            · rw [lostTo_mem, h]; simp
            · simp
          · exact .inl rfl
      · rw [e]
    · rw [(valueR_cells h13).1]
  unfold insR9
  split
  · split
    · show setAll _ _ (writesP r.m i) l = _
      rw [setAll_not hw, hv]
    · exact hv
  · rfl
theorem insR9_lost {r : RunS} {i : Ins} {l : Loc} (hr : rightM r.m = true) (h13 : i.op = 13) (hl : lostAt r.m l = true) (hn : 0 ≤ l.n ∧ l.n < r.m.regs) (hok : ∃ b j, (insR9 r i).2 = .spot b j) : ((insR9 r i).1.cells l).isSome = (l.n == r.m.ret) := by
  unfold insR9 at hok ⊢
  by_cases hw : wholeC r.cells (readsP r.m i) = true
  · rw [if_pos hw] at hok ⊢
    rcases valueR_call (r := r) h13 with ⟨e2, e⟩ | ⟨e2, e⟩
    · rw [if_pos e2]
      show (setAll _ (valueR r i).1.cells (writesP r.m i) l).isSome = _
      rw [writesP_call9 h13, e]
      obtain ⟨s, n⟩ := l
      unfold lostAt at hl
      cases s
      case true => simp at hl
      simp at hl hn ⊢
      by_cases he : n = r.m.ret
      · subst he; rw [setAll_mem (by simp)]; simp
      · rw [setAll_not (by simpa using he), delAll_mem]
        · simp [he]
        · unfold lostM; rw [if_pos hr, lostTo_mem]; exact ⟨hn.1, by omega, hl⟩
    · rw [if_neg (by rw [e2]; simp)] at hok
      obtain ⟨b, j, h⟩ := hok; cases h
  · rw [if_neg hw] at hok
    obtain ⟨b, j, h⟩ := hok; cases h
theorem insR9_mem {r : RunS} {i : Ins} (h : i.op ≠ 12) : (insR9 r i).1.mem = r.mem := by
  unfold insR9
  split
  · split <;> exact valueR_memory h
  · rfl
theorem insR9_calls {r : RunS} {i : Ins} (h : i.op ≠ 13) : (insR9 r i).1.calls = r.calls := by
  unfold insR9
  split
  · split <;> exact (valueR_cells h).2
  · rfl
theorem goR_cells (r : RunS) (x : Nxt) : (goR r x).cells = r.cells ∧ (goR r x).mem = r.mem ∧ (goR r x).calls = r.calls ∧ (goR r x).first = r.first ∧ (goR r x).m = r.m ∧ (goR r x).t = r.t := by cases x <;> exact ⟨rfl, rfl, rfl, rfl, rfl, rfl⟩
/-- what a step of a run that goes on keeps -/
structure StepSafe (r r' : RunS) : Prop where
  steps : r'.steps = r.steps + 1
  unwhole : wholeC r.cells (readsAt r) = false → r'.fin = 3
  whole : wholeC r.cells (readsAt r) = true → r'.fin = 3 → ¬ r.ins < (blockR r).ins.length ∧ (blockR r).term.kind = 3
  frame : ∀ l, l ∉ writesAt r → (opAt r ≠ 13 ∨ lostAt r.m l = false) → r'.cells l = r.cells l
  lost : ∀ l, opAt r = 13 → lostAt r.m l = true → 0 ≤ l.n ∧ l.n < r.m.regs → r'.fin = 0 → (r'.cells l).isSome = (l.n == r.m.ret)
  mem : opAt r ≠ 12 → r'.mem = r.mem
  calls : opAt r ≠ 13 → r'.calls = r.calls
  inserted : insertedB (opAt r) = true → r'.fin ≠ 2
  home : r'.fin = 1 → ∀ l n, r.first l = some n → r'.cells l = some n
  m : r'.m = r.m
  t : r'.t = r.t
  first : r'.first = r.first
theorem step_safe {r : RunS} (hr : rightM r.m = true) (hf : r.fin = 0) : StepSafe r (stepR r).1 := by
  obtain ⟨r1, h1⟩ : ∃ r1, r1 = { r with steps := r.steps + 1 } := ⟨_, rfl⟩
  have e1 : r1.cells = r.cells := by rw [h1]
  have e2 : r1.m = r.m := by rw [h1]
  have e3 : r1.t = r.t := by rw [h1]
  have e4 : r1.first = r.first := by rw [h1]
  have e5 : r1.mem = r.mem := by rw [h1]
  have e6 : r1.calls = r.calls := by rw [h1]
  have e7 : r1.fin = 0 := by rw [h1]; exact hf
  have hst := stepR_live hf
  by_cases hi : r.ins < (blockR r).ins.length
  · have hs : (stepR r).1 = goR (insR9 r1 (insAt r)).1 (insR9 r1 (insAt r)).2 := by unfold stepR; rw [if_neg (by omega), if_pos hi, h1]; rfl
    have er : readsAt r = readsP r1.m (insAt r) := by unfold readsAt; rw [if_pos hi, e2]
    have ew : writesAt r = writesP r1.m (insAt r) := by unfold writesAt; rw [if_pos hi, e2]
    have eo : opAt r = (insAt r).op := by unfold opAt; rw [if_pos hi]
    have f := insR9_fr r1 (insAt r)
    obtain ⟨g1, g2, g3, g4, g5, g6⟩ := goR_cells (insR9 r1 (insAt r)).1 (insR9 r1 (insAt r)).2
    have hfin : ∀ e v, (insR9 r1 (insAt r)).2 = .done e v → (stepR r).1.fin = e := fun e v h => by rw [hs, h]; rfl
    have hfin0 : ∀ b j, (insR9 r1 (insAt r)).2 = .spot b j → (stepR r).1.fin = 0 := fun b j h => by rw [hs, h]; show (insR9 r1 (insAt r)).1.fin = 0; rw [f.fin, e7]
    have hun : wholeC r1.cells (readsP r1.m (insAt r)) = false → (insR9 r1 (insAt r)).2 = .done 3 0 := fun h => by unfold insR9; rw [if_neg (by rw [h]; simp)]
    have hwh : wholeC r1.cells (readsP r1.m (insAt r)) = true → (insR9 r1 (insAt r)).2 ≠ .done 3 0 := fun h => by
      unfold insR9; rw [if_pos h]; split
      · simp
      · simp
    refine ⟨hst, ?_, ?_, ?_, ?_, ?_, ?_, ?_, ?_, by rw [hs, g5, f.m, e2], by rw [hs, g6, f.t, e3], by rw [hs, g4, f.first, e4]⟩
    · intro h; rw [er, ← e1] at h; exact hfin _ _ (hun h)
    · intro h h3
      rw [er, ← e1] at h
      rcases f.nxt with e | e | e
      · have := hfin0 _ _ e; omega
      · have := hfin _ _ e; omega
      · exact absurd e (hwh h)
    · intro l hw hl
      rw [hs, g1, ← e1]
      rw [ew] at hw; rw [eo, ← e2] at hl
      exact insR9_frame hw hl
    · intro l ho hl hn h0
      rw [hs, g1]
      rw [← e2] at hl hn hr ⊢
      refine insR9_lost hr (by rw [← eo]; exact ho) hl hn ?_
      rcases f.nxt with e | e | e
      · exact ⟨_, _, e⟩
      · have := hfin _ _ e; omega
      · have := hfin _ _ e; omega
    · intro ho; rw [hs, g2, insR9_mem (by rw [← eo]; exact ho), e5]
    · intro ho; rw [hs, g3, insR9_calls (by rw [← eo]; exact ho), e6]
    · intro ho h2
      rw [eo] at ho
      rcases f.nxt with e | e | e
      · have := hfin0 _ _ e; omega
      · have hv := valueR_inserted (r := r1) ho
        unfold insR9 at e
        split at e
        · first | cases e | (rw [if_pos hv] at e; cases e)
        · cases e
      · have := hfin _ _ e; omega
    · intro h1
      rcases f.nxt with e | e | e
      · have := hfin0 _ _ e; omega
      · have := hfin _ _ e; omega
      · have := hfin _ _ e; omega
  · have hs : (stepR r).1 = goR r1 (termR9 r1 (blockR r).term) := by unfold stepR; rw [if_neg (by omega), if_neg hi, h1]
    have er : readsAt r = needsP (blockR r).term := by unfold readsAt; rw [if_neg hi]
    have eo : opAt r = 0 := by unfold opAt; rw [if_neg hi]
    obtain ⟨g1, g2, g3, g4, g5, g6⟩ := goR_cells r1 (termR9 r1 (blockR r).term)
    have hfin : ∀ e v, termR9 r1 (blockR r).term = .done e v → (stepR r).1.fin = e := fun e v h => by rw [hs, h]; rfl
    have hfin0 : ∀ b j, termR9 r1 (blockR r).term = .spot b j → (stepR r).1.fin = 0 := fun b j h => by rw [hs, h]; exact e7
    refine ⟨hst, ?_, ?_, ?_, ?_, ?_, ?_, ?_, ?_, by rw [hs, g5, e2], by rw [hs, g6, e3], by rw [hs, g4, e4]⟩
    · intro h
      rw [er, ← e1] at h
      refine hfin 3 0 ?_
      unfold termR9; rw [if_neg (by rw [h]; simp)]
    · intro h h3
      rw [er, ← e1] at h
      refine ⟨hi, ?_⟩
      have hx : termR9 r1 (blockR r).term = termR9 r1 (blockR r).term := rfl
      by_cases k4 : (blockR r).term.kind = 4
      · have := hfin 2 0 (by unfold termR9; rw [if_pos h, if_pos k4]); omega
      · by_cases k3 : (blockR r).term.kind = 3
        · exact k3
        · have : ∃ b j, termR9 r1 (blockR r).term = .spot b j := by
            unfold termR9; rw [if_pos h, if_neg k4, if_neg k3]; split <;> exact ⟨_, _, rfl⟩
          obtain ⟨b, j, e⟩ := this
          have := hfin0 _ _ e; omega
    · intro l _ _; rw [hs, g1, e1]
    · intro l ho; rw [eo] at ho; omega
    · intro _; rw [hs, g2, e5]
    · intro _; rw [hs, g3, e6]
    · intro ho; rw [eo] at ho; exact absurd ho (by decide)
    · intro hf1 l n hl
      rw [hs, g1]
      by_cases hw : wholeC r1.cells (needsP (blockR r).term) = true
      · by_cases k4 : (blockR r).term.kind = 4
        · have := hfin 2 0 (by unfold termR9; rw [if_pos hw, if_pos k4]); omega
        · by_cases k3 : (blockR r).term.kind = 3
          · by_cases hk : keptR r1 = true
            · refine Classical.byContradiction fun hne => ?_
              rw [keptR_no (r := r1) (l := l) (n := n) (by rw [e4]; exact hl) (by simpa using hne)] at hk
              cases hk
            · have := hfin 3 0 (by unfold termR9; rw [if_pos hw, if_neg k4, if_pos k3, if_neg hk]); omega
          · have : ∃ b j, termR9 r1 (blockR r).term = .spot b j := by
              unfold termR9; rw [if_pos hw, if_neg k4, if_neg k3]; split <;> exact ⟨_, _, rfl⟩
            obtain ⟨b, j, e⟩ := this
            have := hfin0 _ _ e; omega
      · have := hfin 3 0 (by unfold termR9; rw [if_neg hw]); omega
theorem fs1_mem {saved : List Int} {f : Loc → Option Int} {x : Int} : ∀ k, k ≤ saved.length → x ∈ saved.take k → (f ⟨false, x⟩).isSome = true → fs1 saved f k ⟨false, x⟩ = f ⟨false, x⟩
  | 0, _, h, _ => by simp at h
  | k + 1, hk, h, hs => by
    show upd (fs1 saved f k) _ _ _ = _
    by_cases e : x = saved.getD k 0
    · unfold upd
      rw [if_pos (by rw [← e]), ← e]
      obtain ⟨y, hy⟩ := Option.isSome_iff_exists.1 hs
      rw [hy]; rfl
    · unfold upd
      rw [if_neg (by intro h; exact e (Loc.mk.inj h).2)]
      refine fs1_mem k (by omega) ?_ hs
      rw [List.take_add_one, List.mem_append] at h
      rcases h with h | h
      · exact h
      · rw [List.getD_eq_getElem?_getD] at e
        cases hg : saved[k]? with
        | none => rw [hg] at h; simp at h
        | some y => rw [hg] at h e; simp at h e; exact absurd h e
/-- what a run returns with is, in each saved register, what was there at first -/
theorem runN_same (m : Machine) (t : Target) (args mem answers first : List Int) (hr : rightM m = true) : ∀ n, (runN n (startR m t args mem answers first)).m = m ∧ (runN n (startR m t args mem answers first)).t = t ∧ (runN n (startR m t args mem answers first)).first = (startR m t args mem answers first).first
  | 0 => ⟨rfl, rfl, rfl⟩
  | n + 1 => by
    obtain ⟨h1, h2, h3⟩ := runN_same m t args mem answers first hr n
    show (stepR (runN n _)).1.m = _ ∧ (stepR (runN n _)).1.t = _ ∧ (stepR (runN n _)).1.first = _
    by_cases h : (runN n (startR m t args mem answers first)).fin = 0
    · have s := step_safe (by rw [h1]; exact hr) h
      exact ⟨s.m.trans h1, s.t.trans h2, s.first.trans h3⟩
    · rw [stepR_fin h]; exact ⟨h1, h2, h3⟩
theorem run_home {m : Machine} {t : Target} {args mem answers first : List Int} (hr : rightM m = true) {r : RunS} (hm : r.first = (startR m t args mem answers first).first) (hf : r.fin = 0) (hrm : r.m = m) (h1 : (stepR r).1.fin = 1) {s : Int} (hs : s ∈ m.saved) :
    ((startR m t args mem answers first).cells ⟨false, s⟩).isSome = true ∧ (stepR r).1.cells ⟨false, s⟩ = (startR m t args mem answers first).cells ⟨false, s⟩ := by
  have hon : ((startR m t args mem answers first).cells ⟨false, s⟩).isSome = true := cs2_on hs _
  refine ⟨hon, ?_⟩
  obtain ⟨y, hy⟩ := Option.isSome_iff_exists.1 hon
  have hfst : r.first ⟨false, s⟩ = some y := by
    rw [hm]
    show fs1 m.saved (startR m t args mem answers first).cells m.saved.length ⟨false, s⟩ = some y
    rw [fs1_mem _ (Nat.le_refl _) (by rw [List.take_length]; exact hs) hon, hy]
  have hrr : rightM r.m = true := by rw [hrm]; exact hr
  rw [(step_safe hrr hf).home h1 _ _ hfst, hy]
end Go.Proofs.Ytkjipgelbjaggaa
set_option linter.unusedSimpArgs false
set_option linter.unusedVariables false
namespace Go.Proofs.Ytkjipgelbjaggaa
open Go.RowKit Go.Maps
/-- the place of a number -/
def placeN (m : Machine) (k : Nat) : Loc := if (k : Int) < m.regs then ⟨false, k⟩ else ⟨true, k - m.regs⟩
theorem place9_any (w : World) (m : Machine) (A1 A2 : Option Addr) (n1 c1 n2 c2 : Nat) (k : Nat) (hk : k ≤ 1048576) (hr : 0 ≤ m.regs ∧ m.regs ≤ 64) :
    Calls Try.prog 25 #[.agg #[.int .i64 m.regs, .slice A1 n1 c1, .int .i64 m.ret, .slice A2 n2 c2], .int .i64 k] w (RetX (.agg #[.bool (placeN m k).slot, .int .i64 (placeN m k).n]) w) := by
  by_cases h : (k : Int) < m.regs
  · have hp : placeN m k = ⟨false, k⟩ := by unfold placeN; rw [if_pos h]
    rw [hp]
    go_enter Try.func25, Try.ntmps25
    go_wp2
    refine bodyPost_ret (v := .agg #[.bool false, .int .i64 k]) (by simp [results, Try.results25, go_sem]) rfl ⟨rfl, Below.to_ext (by repeat (first | exact Below.refl _ _ | assumption | refine Below.alloc ?_ (by simp [size_ext]; try omega) _ | refine Below.ext ?_ (by simp [size_ext]; try omega) _ | refine Below.drew ?_ | refine Below.setCell ?_ (by simp [size_ext]; try omega) _))⟩
  · have hp : placeN m k = ⟨true, k - m.regs⟩ := by unfold placeN; rw [if_neg h]
    have hw : IntKind.i64.wrap ((k : Int) - m.regs) = k - m.regs := IntWalk.i64_in _ (by omega)
    rw [hp]
    go_enter Try.func25, Try.ntmps25
    go_wp2
    refine bodyPost_ret (v := .agg #[.bool true, .int .i64 (k - m.regs)]) (by simp [results, Try.results25, go_sem]) rfl ⟨rfl, Below.to_ext (by repeat (first | exact Below.refl _ _ | assumption | refine Below.alloc ?_ (by simp [size_ext]; try omega) _ | refine Below.ext ?_ (by simp [size_ext]; try omega) _ | refine Below.drew ?_ | refine Below.setCell ?_ (by simp [size_ext]; try omega) _))⟩
theorem in9_any (w : World) (S : Nat → Prop) (A : Option Addr) (n c : Nat) (xs : List Loc) (h : Sl w S A n c xs) (p : Loc) :
    Calls Try.prog 27 #[.slice A n c, .agg #[.bool p.slot, .int .i64 p.n]] w (RetX (.bool (anyF (fun x => x == p) xs)) w) := by
  have hn := h.nle
  have HL := hide h.len
  have HS := hide (h.alloc (.cells #[.bool p.slot, .int .i64 p.n] 70))
  clear h
  have hg0 : (w.alloc (.cells #[.bool p.slot, .int .i64 p.n] 70)).cell? ⟨w.heap.size, 0, none⟩ = some (.bool p.slot) := by go_simp
  have hg1 : (w.alloc (.cells #[.bool p.slot, .int .i64 p.n] 70)).cell? ⟨w.heap.size, 1, none⟩ = some (.int .i64 p.n) := by go_simp
  go_enter Try.func27, Try.ntmps27
  go_wp2_with fail
  obtain ⟨W, hW⟩ : ∃ W, W = w.alloc (.cells #[.bool p.slot, .int .i64 p.n] 70) := ⟨_, rfl⟩
  have hB := hide (show Below w.heap.size w W by rw [hW]; exact (by repeat (first | exact Below.refl _ _ | assumption | refine Below.alloc ?_ (by simp [size_ext]; try omega) _ | refine Below.ext ?_ (by simp [size_ext]; try omega) _ | refine Below.drew ?_ | refine Below.setCell ?_ (by simp [size_ext]; try omega) _)))
  have hl : w.heap.size < W.heap.size := by rw [hW]; simp
  rw [← hW] at HS hg0 hg1 ⊢
  clear hW
  go_loopw [5] (fun i wr => ∃ k : Nat, k ≤ n ∧ i = .int .i64 k ∧ anyF (fun x => x == p) xs = anyF (fun x => x == p) (xs.drop k) ∧ ∃ u : Ext, wr = W.ext u) (fun i _ => n - (intOf i).toNat)
  case atStart => exact ⟨0, Nat.zero_le _, rfl, rfl, ext_refl W⟩
  case round =>
    obtain ⟨k, hk, rfl, hr, u, rfl⟩ := hrel
    have HR := hide hr; clear hr
    by_cases hlt : k < n
    · obtain ⟨b, off, x, rfl, hb, hx, hi, p0, p1⟩ := at_Loc HS.out hlt
      have HX := hide (drop_at hx)
      clear hx hi
      by_cases e0 : x.slot = p.slot
      · by_cases e1 : x.n = p.n
        · have e2 : (x == p) = true := by rw [beq_iff_eq]; obtain ⟨a, b⟩ := x; obtain ⟨c, d⟩ := p; simp only at e0 e1; subst e0 e1; rfl
          have E2 := hide e2; clear e2
          go_wp2
          refine wp_region_ext (by kernel_rfl) (by kernel_rfl) ?_
          repeat (any_goals (first | go_big_quiet_step ((fail)) | quiet_step ((fail))))
          refine wpQuiet_nil ?_
          rintro _ ⟨uq, rfl⟩
          clear e0 e1
          go_wp2
          go_ret
          exact RetX.b (by rw [HR.out, HX.out]; simp only [anyF, E2.out, Bool.true_or]) (hB.out.trans (((Below.of_ext _ _ (Nat.le_refl _)).ext (by simp [size_ext]) _).mono (by omega)))
        · have e2 : (x == p) = false := by rw [beq_eq_false_iff_ne]; intro e; exact e1 (by rw [e])
          have E2 := hide e2; clear e2
          go_wp2
          refine wp_region_ext (by kernel_rfl) (by kernel_rfl) ?_
          repeat (any_goals (first | go_big_quiet_step ((fail)) | quiet_step ((fail))))
          refine wpQuiet_nil ?_
          rintro _ ⟨uq, rfl⟩
          clear e0 e1
          go_wp2
          go_roundw
          case rel => exact ⟨k + 1, by omega, by go_num, by rw [HR.out, HX.out]; simp only [anyF, E2.out, Bool.false_or], ext_ext _ _ _⟩
          case measure => simp [intOf]; omega
      · have e2 : (x == p) = false := by rw [beq_eq_false_iff_ne]; intro e; exact e0 (by rw [e])
        have E2 := hide e2; clear e2
        go_wp2
        refine wp_region_ext (by kernel_rfl) (by kernel_rfl) ?_
        repeat (any_goals (first | go_big_quiet_step ((fail)) | quiet_step ((fail))))
        refine wpQuiet_nil ?_
        rintro _ ⟨uq, rfl⟩
        clear e0
        go_wp2
        go_roundw
        case rel => exact ⟨k + 1, by omega, by go_num, by rw [HR.out, HX.out]; simp only [anyF, E2.out, Bool.false_or], ext_ext _ _ _⟩
        case measure => simp [intOf]; omega
    · go_wp2
      go_ret
      exact RetX.b (by rw [HR.out, drop_end HL.out hlt]; rfl) (hB.out.trans ((Below.of_ext _ _ (Nat.le_refl _)).mono (by omega)))
end Go.Proofs.Ytkjipgelbjaggaa
set_option linter.unusedSimpArgs false
set_option linter.unusedVariables false
namespace Go.Proofs.Ytkjipgelbjaggaa
open Go.RowKit Go.Maps
def valsR (r : RunS) (m : Machine) (N : Nat) : List Int := (List.range N).map fun k => (r.cells (placeN m k)).getD 0
def hasR (r : RunS) (m : Machine) (N : Nat) : List Bool := (List.range N).map fun k => (r.cells (placeN m k)).isSome
theorem valsR_succ (r : RunS) (m : Machine) (k : Nat) : valsR r m (k + 1) = valsR r m k ++ [(r.cells (placeN m k)).getD 0] := by unfold valsR; rw [List.range_succ, List.map_append]; rfl
theorem hasR_succ (r : RunS) (m : Machine) (k : Nat) : hasR r m (k + 1) = hasR r m k ++ [(r.cells (placeN m k)).isSome] := by unfold hasR; rw [List.range_succ, List.map_append]; rfl
theorem valsR_len (r : RunS) (m : Machine) (k : Nat) : (valsR r m k).length = k := by unfold valsR; simp
theorem hasR_len (r : RunS) (m : Machine) (k : Nat) : (hasR r m k).length = k := by unfold hasR; simp
theorem info_bool : (Try.prog.info? 4).map (fun i => (i.zero, i.size, i.bytes)) = some (some (.bool false), 1, 1) := by kernel_rfl
theorem placeN_in (m : Machine) {k : Nat} (hk : k ≤ 1000) (hr : 0 ≤ m.regs ∧ m.regs ≤ 64) : InI (placeN m k).n := by
  unfold placeN
  split
  · show InI (k : Int); unfold InI; omega
  · show InI ((k : Int) - m.regs); unfold InI; omega
/-- It returns what is at N places, and whether something is. -/
def RetCells (r : RunS) (m : Machine) (N : Nat) (w : World) (e : Ending) (w' : World) : Prop :=
  ∃ A1 c1 A2 c2, e = .returned (.tuple #[.slice A1 N c1, .slice A2 N c2]) ∧ Sl w' (fun b => w.heap.size ≤ b ∧ b < w'.heap.size) A1 N c1 (valsR r m N) ∧ Sl w' (fun b => w.heap.size ≤ b ∧ b < w'.heap.size) A2 N c2 (hasR r m N) ∧ ∃ u : Ext, w' = w.ext u
set_option maxHeartbeats 2000000 in
set_option maxRecDepth 8000 in
theorem cells9_any (w : World) (base X K : Nat) (q : RunM) (r : RunS) (h : RunAt w base X K q r) (m : Machine) (A1 A2 : Option Addr) (n1 c1 n2 c2 : Nat) (t : Target) (A : Option Addr) (n c : Nat) (N : Nat) (hN : m.regs + t.frame = N) (hN2 : N ≤ 1000) (hr : 0 ≤ m.regs ∧ m.regs ≤ 64) :
    Calls Try.prog 17 #[.pointer (some ⟨X, 0, none⟩), .agg #[.int .i64 m.regs, .slice A1 n1 c1, .int .i64 m.ret, .slice A2 n2 c2], .agg #[.int .i64 t.frame, .slice A n c]] w (RetCells r m N w) := by
  have hw : IntKind.i64.wrap (m.regs + t.frame) = (N : Int) := by rw [hN]; exact IntWalk.i64_in _ (by omega)
  have HG := hide (show ∀ l, InI ((r.cells l).getD 0) from fun l => h.cells.getD_good l)
  obtain ⟨i0, hi, hz, hz1, hz2⟩ := info_parts info_int
  have HI0 := hide hi; have HZ := hide hz; have HZ1 := hide hz1; have HZ2 := hide hz2
  clear hi hz hz1 hz2
  obtain ⟨i1, hi, hz, hz1, hz2⟩ := info_parts info_bool
  have HJ0 := hide hi; have HY := hide hz; have HY1 := hide hz1; have HY2 := hide hz2
  clear hi hz hz1 hz2
  have HR := hide h
  have hXl := h.lt
  have HRG := hide hr
  clear h hN hr
  go_enter Try.func17, Try.ntmps17
  go_wp2_with fail
  obtain ⟨W, hW⟩ : ∃ W, W = (w.alloc (.cells #[.int .i64 m.regs, .slice A1 n1 c1, .int .i64 m.ret, .slice A2 n2 c2] 24)).alloc (.cells #[.int .i64 t.frame, .slice A n c] 27) := ⟨_, rfl⟩
  have hB := hide (show Below w.heap.size w W by rw [hW]; exact (by repeat (first | exact Below.refl _ _ | assumption | refine Below.alloc ?_ (by simp [size_ext]; try omega) _ | refine Below.ext ?_ (by simp [size_ext]; try omega) _ | refine Below.drew ?_ | refine Below.setCell ?_ (by simp [size_ext]; try omega) _)))
  have hWs : W.heap.size = w.heap.size + 1 + 1 := by rw [hW]; simp
  have p0 : W.cell? ⟨w.heap.size, 0, none⟩ = some (.int .i64 m.regs) := by subst hW; go_simp
  have p1 : W.cell? ⟨w.heap.size, 1, none⟩ = some (.slice A1 n1 c1) := by subst hW; go_simp
  have p2 : W.cell? ⟨w.heap.size, 2, none⟩ = some (.int .i64 m.ret) := by subst hW; go_simp
  have p3 : W.cell? ⟨w.heap.size, 3, none⟩ = some (.slice A2 n2 c2) := by subst hW; go_simp
  have q0 : W.cell? ⟨w.heap.size + 1, 0, none⟩ = some (.int .i64 t.frame) := by subst hW; go_simp
  rw [← hW]
  have HWs := hide hWs
  have l0 : w.heap.size < W.heap.size := by omega
  have l1 : w.heap.size + 1 < W.heap.size := by omega
  clear hW
  go_loopw [8, 9, 10] (fun o p i wr => ∃ k : Nat, k ≤ N ∧ i = .int .i64 k ∧ OwnL wr W.heap.size 3 (fun _ => False) o (valsR r m k) ∧ OwnL wr W.heap.size 4 (fun _ => False) p (hasR r m k) ∧ Below W.heap.size W wr ∧ (∀ g, o.ownBlock = some g → p.ownBlock ≠ some g)) (fun _ _ i _ => N - (intOf i).toNat)
  case atStart => exact ⟨0, Nat.zero_le _, rfl, OwnL.nil_ _ _ _ _, OwnL.nil_ _ _ _ _, Below.refl _ _, fun g hg => by cases hg⟩
  case round =>
    obtain ⟨k, hk, rfl, ho, hp, hbel, hd⟩ := hrel
    obtain ⟨V, rfl⟩ : ∃ V, V = wr := ⟨_, rfl⟩
    have HO := hide ho; have HP := hide hp; have HBe := hide hbel; have HD := hide hd
    have hsV := hbel.size
    have p0_V : V.cell? ⟨w.heap.size, 0, none⟩ = some (.int .i64 m.regs) := by rw [hbel.cell l0]; exact p0
    have p1_V : V.cell? ⟨w.heap.size, 1, none⟩ = some (.slice A1 n1 c1) := by rw [hbel.cell l0]; exact p1
    have p2_V : V.cell? ⟨w.heap.size, 2, none⟩ = some (.int .i64 m.ret) := by rw [hbel.cell l0]; exact p2
    have p3_V : V.cell? ⟨w.heap.size, 3, none⟩ = some (.slice A2 n2 c2) := by rw [hbel.cell l0]; exact p3
    have q0_V : V.cell? ⟨w.heap.size + 1, 0, none⟩ = some (.int .i64 t.frame) := by rw [hbel.cell l1]; exact q0
    have l0_V : w.heap.size < V.heap.size := by omega
    have l1_V : w.heap.size + 1 < V.heap.size := by omega
    have HRV := hide ((HR.out.keep hB.out).keep (hbel.mono (Nat.le_refl _)))
    clear ho hp hbel hd
    by_cases hlt : k < N
    · have hlt' : (k : Int) < N := by omega
      have hNe : (decide ((k : Int) < (N : Int))) = true := by simp; omega
      go_upto_region 7 with (first | (go_at_call 25; (with_reducible refine (place9_any _ m A1 A2 n1 c1 n2 c2 k (by omega) HRG.out).mono ?_); rintro e _ ⟨rfl, ux, rfl⟩) | (go_at_call 22; refine (loc9_any _ base X K q r (HRV.out.ext _) (placeN m k) (placeN_in m (by omega) HRG.out)).mono ?_; rintro e _ ⟨rfl, ul, rfl⟩))
      refine name_world fun Y hY => ?_
      have HYV := hide (show Below V.heap.size V Y by rw [hY]; exact (by repeat (first | exact Below.refl _ _ | assumption | refine Below.alloc ?_ (by simp [size_ext]; try omega) _ | refine Below.ext ?_ (by simp [size_ext]; try omega) _ | refine Below.drew ?_ | refine Below.setCell ?_ (by simp [size_ext]; try omega) _)))
      have hsY := HYV.out.size
      clear hY
      have HOY := hide (HO.out.keep hsY (fun _ h _ => h.elim) (fun g hg => HYV.out.block g (HO.out.below_ g hg).2))
      have HPY := hide (HP.out.keep hsY (fun _ h _ => h.elim) (fun g hg => HYV.out.block g (HP.out.below_ g hg).2))
      have HVL := hide (valsR_len r m k); have HHL := hide (hasR_len r m k)
      go_upto_region 8 with (at_builtin; refine wpList_push (α := Int) Y [.int .i64 ((r.cells (placeN m k)).getD 0)] 3 rfl (.tmp 30) (.tmp 32) 22 rfl W.heap.size 3 i0 _ 8 Try.underlying22 HI0.out HZ.out HZ1.out HZ2.out rfl (by decide) (fun _ => False) (fun _ => False) u8 _ ((r.cells (placeN m k)).getD 0) rfl HOY.out _ rfl rfl ⟨rfl, HG.out _⟩ (fun _ h => h) (fun _ _ h => h) (fun _ h => h.elim) (by have := HVL.out; omega) (by have := HVL.out; omega) (by omega) ?_; intro v' w1 hown' hg hor)
      have hb1 := below_push (HBe.out.trans (HYV.out.mono hsV)) HOY.out (by omega) hg
      have HO1 := hide hown'
      have HOR := hide hor
      have hs1 := hb1.size
      have hs1' : Y.heap.size + 1 ≤ w1.heap.size := by have := hg.size; simpa using this
      have HP1 := hide (HPY.out.keep (by omega) (fun _ h _ => h.elim) (fun g hgb => (hg.block g (by have := (HPY.out.below_ g hgb).2; simp; omega) (fun e => HD.out g e.symm hgb)).trans (Below.heap_alloc Y _ g (HPY.out.below_ g hgb).2)))
      have HB1 := hide hb1
      clear hown' hg hor hb1
      go_wp2_with (at_builtin; refine wpList_push (α := Bool) w1 [.bool (r.cells (placeN m k)).isSome] 4 rfl (.tmp 34) (.tmp 36) 49 rfl W.heap.size 4 i1 _ 1 Try.underlying49 HJ0.out HY.out HY1.out HY2.out rfl (by decide) (fun _ => False) (fun _ => False) _ _ ((r.cells (placeN m k)).isSome) rfl HP1.out _ rfl rfl rfl (fun _ h => h) (fun _ _ h => h) (fun _ h => h.elim) (by have := HHL.out; omega) (by have := HHL.out; omega) (by omega) ?_; intro v2 w2 hown2 hg2 hor2)
      have hb2 := below_push HB1.out HP1.out (by omega) hg2
      have HB2 := hide hb2
      have HO2 := hide (HO1.out.keep (by have := hg2.size; simp at this; omega) (fun _ h _ => h.elim) (fun g hgb => (hg2.block g (by have := (HO1.out.below_ g hgb).2; simp; omega) (fun e => by
        rcases HOR.out with e1 | e1
        · exact HD.out g (by rw [← e1]; exact hgb) e.symm
        · rw [e1] at hgb; injection hgb with hgb
          have := (HPY.out.below_ g e.symm).2
          omega)).trans (Below.heap_alloc w1 _ g (HO1.out.below_ g hgb).2)))
      have HP2 := hide hown2
      have HD2 := hide (show ∀ g, v'.ownBlock = some g → v2.ownBlock ≠ some g from fun g h1 h2 => by
        have hl1 := (HO1.out.below_ g h1).2
        rcases hor2 with e2 | e2
        · rw [e2] at h2
          rcases HOR.out with e1 | e1
          · exact HD.out g (by rw [← e1]; exact h1) h2
          · rw [e1] at h1; injection h1 with h1
            have := (HPY.out.below_ g h2).2
            omega
        · rw [e2] at h2; injection h2 with h2; omega)
      clear hown2 hg2 hor2 hb2
      go_wp2_with fail
      go_roundw
      case rel => exact ⟨k + 1, by omega, by go_num, by rw [valsR_succ]; exact HO2.out, by rw [hasR_succ]; exact HP2.out, HB2.out, HD2.out⟩
      case measure => simp [intOf]; omega
    · obtain rfl : k = N := by omega
      have hNe : (decide ((k : Int) < (k : Int))) = false := by simp
      go_wp2_with fail
      go_ret2
      obtain ⟨Ao, co, ho⟩ := HO.out.form
      obtain ⟨Ap, cp, hp⟩ := HP.out.form
      have h1 := HO.out; have h2 := HP.out
      rw [ho, valsR_len] at h1 ⊢
      rw [hp, hasR_len] at h2 ⊢
      refine ⟨Ao, co, Ap, cp, rfl, h1.sl (fun b hb hx => ⟨?_, hb⟩), h2.sl (fun b hb hx => ⟨?_, hb⟩), Below.to_ext (hB.out.trans (HBe.out.mono (by omega)))⟩
      · rcases hx with hx | hx
        · exact hx.elim
        · have := HWs.out; omega
      · rcases hx with hx | hx
        · exact hx.elim
        · have := HWs.out; omega
end Go.Proofs.Ytkjipgelbjaggaa
set_option linter.unusedSimpArgs false
set_option linter.unusedVariables false
namespace Go.Proofs.Ytkjipgelbjaggaa
open Go.RowKit Go.Maps
theorem at_bool {w : World} {S : Nat → Prop} {A : Option Addr} {n c : Nat} {xs : List Bool} (h : Sl w S A n c xs) {k : Nat} (hk : k < n) :
    ∃ b off, ∃ x : Bool, A = some ⟨b, off, none⟩ ∧ b < w.heap.size ∧ xs[k]? = some x ∧ w.cell? ⟨b, off + k, none⟩ = some (.bool x) := by
  obtain ⟨b, off, x, us, e, hb, _, hx, hus, hc⟩ := h.at_ hk
  have hus' : us = [.bool x] := hus
  subst hus'
  refine ⟨b, off, x, e, hb, hx, ?_⟩
  have := hc 0 _ rfl; simpa [Rep.size] using this
set_option maxHeartbeats 2000000 in
set_option maxRecDepth 8000 in
theorem home9_any (w : World) (m : Machine) (S2 Sa Sh Sn Ss : Nat → Prop) (A1 A2 : Option Addr) (n1 c1 n2 c2 : Nat) (h2 : Sl w S2 A2 n2 c2 m.saved) (N : Nat) (Aa Ah An As : Option Addr) (ca ch cn cs : Nat) (la ln : List Int) (lh ls : List Bool)
    (ha : Sl w Sa Aa N ca la) (hh : Sl w Sh Ah N ch lh) (hn : Sl w Sn An N cn ln) (hs : Sl w Ss As N cs ls)
    (hg : ∀ s ∈ m.saved, ∃ k : Nat, s = (k : Int) ∧ k < N ∧ lh[k]? = some true ∧ ls[k]? = some true ∧ la[k]? = ln[k]?) :
    Calls Try.prog 29 #[.agg #[.int .i64 m.regs, .slice A1 n1 c1, .int .i64 m.ret, .slice A2 n2 c2], .slice Aa N ca, .slice Ah N ch, .slice An N cn, .slice As N cs] w (RetX (.bool true) w) := by
  have hn2 := h2.nle; have hN := ha.nle
  have H2 := hide h2; have HA := hide ha; have HH := hide hh; have HN := hide hn; have HS := hide hs; have HG := hide hg
  clear h2 ha hh hn hs hg
  go_enter Try.func29, Try.ntmps29
  go_wp2_with fail
  obtain ⟨W, hW⟩ : ∃ W, W = w.alloc (.cells #[.int .i64 m.regs, .slice A1 n1 c1, .int .i64 m.ret, .slice A2 n2 c2] 24) := ⟨_, rfl⟩
  have hB := hide (show Below w.heap.size w W by rw [hW]; exact (by repeat (first | exact Below.refl _ _ | assumption | refine Below.alloc ?_ (by simp [size_ext]; try omega) _ | refine Below.ext ?_ (by simp [size_ext]; try omega) _ | refine Below.drew ?_ | refine Below.setCell ?_ (by simp [size_ext]; try omega) _)))
  have l0 : w.heap.size < W.heap.size := by rw [hW]; simp
  have p3 : W.cell? ⟨w.heap.size, 3, none⟩ = some (.slice A2 n2 c2) := by subst hW; go_simp
  rw [← hW]
  clear hW
  go_loopw [11] (fun i wr => ∃ k : Nat, k ≤ n2 ∧ i = .int .i64 k ∧ ∃ u : Ext, wr = W.ext u) (fun i _ => n2 - (intOf i).toNat)
  case atStart => exact ⟨0, Nat.zero_le _, rfl, ext_refl W⟩
  case round =>
    obtain ⟨k, hk, rfl, u, rfl⟩ := hrel
    by_cases hlt : k < n2
    · obtain ⟨b, off, s, rfl, hb, hs, hsi, hc⟩ := at_int (H2.out.belowAll hB.out) hlt
      obtain ⟨kk, rfl, hkN, g1, g2, g3⟩ := HG.out s (List.mem_of_getElem? hs)
      obtain ⟨b1, o1, x1, rfl, hb1, hx1, hc1⟩ := at_bool (HH.out.belowAll hB.out) hkN
      obtain ⟨b2, o2, x2, rfl, hb2, hx2, hc2⟩ := at_bool (HS.out.belowAll hB.out) hkN
      obtain ⟨b3, o3, x3, rfl, hb3, hx3, _, hc3⟩ := at_int (HA.out.belowAll hB.out) hkN
      obtain ⟨b4, o4, x4, rfl, hb4, hx4, _, hc4⟩ := at_int (HN.out.belowAll hB.out) hkN
      obtain rfl : x1 = true := by rw [hx1] at g1; exact Option.some.inj g1
      obtain rfl : x2 = true := by rw [hx2] at g2; exact Option.some.inj g2
      obtain rfl : x3 = x4 := by rw [hx3, hx4] at g3; exact Option.some.inj g3
      have hne : (x3 != x3) = false := by simp
      have hkN' : (kk : Int) < N := by omega
      clear g1 g2 g3 hx1 hx2 hx3 hx4 hs hsi
      go_wp2_with fail
      refine wp_region_ext (by kernel_rfl) (by kernel_rfl) ?_
      repeat (any_goals (first | go_big_quiet_step ((fail)) | quiet_step ((fail))))
      refine wpQuiet_nil ?_
      rintro _ ⟨uq, rfl⟩
      go_wp2_with fail
      go_roundw
      case rel => exact ⟨k + 1, by omega, by go_num, ext_ext _ _ _⟩
      case measure => simp [intOf]; omega
    · go_wp2_with fail
      go_ret
      exact RetX.b rfl (hB.out.trans ((Below.of_ext _ _ (Nat.le_refl _)).mono (by omega)))
end Go.Proofs.Ytkjipgelbjaggaa
set_option linter.unusedSimpArgs false
set_option linter.unusedVariables false
namespace Go.Proofs.Ytkjipgelbjaggaa
open Go.RowKit Go.Maps
/-- the way into a piece of code: 0, 1 the first, the second of two; 2 what lies inside -/
def nav : List Nat → Code → Code
  | [], c => c
  | 0 :: l, .seq a _ => nav l a
  | 1 :: l, .seq _ b => nav l b
  | 2 :: l, .block _ c => nav l c
  | 2 :: l, .loop c => nav l c
  | _ :: l, c => nav l c
/-- where the arguments lie -/
structure SafeA where
  A1 : Option Addr
  n1 : Nat
  c1 : Nat
  A2 : Option Addr
  n2 : Nat
  c2 : Nat
  A : Option Addr
  n : Nat
  c : Nat
  bm : Nat
  bt : Nat
  X : Nat
  base : Nat
  N : Nat
  Aat : Option Addr
  cat : Nat
  Ahd : Option Addr
  chd : Nat
structure SafeW (a : SafeA) (w : World) (m : Machine) (t : Target) (la : List Int) (lh : List Bool) (V : World) (K : Nat) (q : RunM) (r : RunS) : Prop where
  run : RunAt V a.base a.X K q r
  fr : Below w.heap.size w V
  p0 : V.cell? ⟨a.bm, 0, none⟩ = some (.int .i64 m.regs)
  p1 : V.cell? ⟨a.bm, 1, none⟩ = some (.slice a.A1 a.n1 a.c1)
  p2 : V.cell? ⟨a.bm, 2, none⟩ = some (.int .i64 m.ret)
  p3 : V.cell? ⟨a.bm, 3, none⟩ = some (.slice a.A2 a.n2 a.c2)
  q0 : V.cell? ⟨a.bt, 0, none⟩ = some (.int .i64 t.frame)
  q1 : V.cell? ⟨a.bt, 1, none⟩ = some (.slice a.A a.n a.c)
  lm : a.bm < a.base
  lt : a.bt < a.base
  lw : w.heap.size ≤ a.base
  at_ : Sl V (fun b => ¬ mineB q a.X b ∧ b < V.heap.size) a.Aat a.N a.cat la
  had : Sl V (fun b => ¬ mineB q a.X b ∧ b < V.heap.size) a.Ahd a.N a.chd lh
section
variable {a : SafeA} {w V V' : World} {m : Machine} {t : Target} {la : List Int} {lh : List Bool} {K : Nat} {q : RunM} {r : RunS}
theorem SafeW.base_lt (h : SafeW a w m t la lh V K q r) : a.base < V.heap.size := by have := h.run.lt; have := h.run.hX; exact Nat.lt_of_le_of_lt h.run.hX h.run.lt
theorem SafeW.lmV (h : SafeW a w m t la lh V K q r) : a.bm < V.heap.size := Nat.lt_trans h.lm h.base_lt
theorem SafeW.ltV (h : SafeW a w m t la lh V K q r) : a.bt < V.heap.size := Nat.lt_trans h.lt h.base_lt
theorem SafeW.keep (h : SafeW a w m t la lh V K q r) (hb : Below V.heap.size V V') : SafeW a w m t la lh V' K q r :=
  ⟨h.run.keep hb, h.fr.trans (hb.mono h.fr.size), by rw [hb.cell h.lmV]; exact h.p0, by rw [hb.cell h.lmV]; exact h.p1, by rw [hb.cell h.lmV]; exact h.p2, by rw [hb.cell h.lmV]; exact h.p3, by rw [hb.cell h.ltV]; exact h.q0, by rw [hb.cell h.ltV]; exact h.q1, h.lm, h.lt, h.lw,
    (h.at_.belowAll hb).more fun b _ hx => ⟨hx.1, Nat.lt_of_lt_of_le hx.2 hb.size⟩, (h.had.belowAll hb).more fun b _ hx => ⟨hx.1, Nat.lt_of_lt_of_le hx.2 hb.size⟩⟩
theorem Sl.runFr {α : Type} [Rep α] {q' : RunM} {X : Nat} {A : Option Addr} {n c : Nat} {xs : List α} (h : Sl V (fun b => ¬ mineB q X b ∧ b < V.heap.size) A n c xs) (hf : RunFr q q' X V V') : Sl V' (fun b => ¬ mineB q' X b ∧ b < V'.heap.size) A n c xs :=
  (h.keep hf.size fun b hb hl => hf.block b hl hb.1).more fun b _ hx => ⟨fun e => by
    rcases hf.mine b e with e | e
    · exact hx.1 e
    · have := hx.2; omega, Nat.lt_of_lt_of_le hx.2 hf.size⟩
theorem SafeW.step (h : SafeW a w m t la lh V K q r) {K' : Nat} {q' : RunM} {r' : RunS} (hr : RunAt V' a.base a.X K' q' r') (hf : RunFr q q' a.X V V') : SafeW a w m t la lh V' K' q' r' := by
  have hb := hf.below h.run
  exact ⟨hr, h.fr.trans (hb.mono h.lw), by rw [hb.cell h.lm]; exact h.p0, by rw [hb.cell h.lm]; exact h.p1, by rw [hb.cell h.lm]; exact h.p2, by rw [hb.cell h.lm]; exact h.p3, by rw [hb.cell h.lt]; exact h.q0, by rw [hb.cell h.lt]; exact h.q1, h.lm, h.lt, h.lw, h.at_.runFr hf, h.had.runFr hf⟩
end
end Go.Proofs.Ytkjipgelbjaggaa
set_option linter.unusedSimpArgs false
set_option linter.unusedVariables false
namespace Go.Proofs.Ytkjipgelbjaggaa
open Go.RowKit Go.Maps
noncomputable def C12 : Code := nav ([1, 1, 1, 1, 1, 1, 0, 1, 2, 2, 1, 0, 2] ++ List.replicate 0 1) (Try.f4.body.getD .skip)
noncomputable def C21 : Code := nav ([1, 1, 1, 1, 1, 1, 0, 1, 2, 2, 1, 0, 2] ++ List.replicate 6 1) (Try.f4.body.getD .skip)
/-- what the first part of a round leaves -/
structure PartA (r : RunS) (V V' : World) (gx : Nat) (Al Aw Ai : Option Addr) (nl cl nw cw ni ci : Nat) : Prop where
  b : Below V.heap.size V V'
  l : Sl V' (fun _ => True) Al nl cl (readsAt r)
  w : Sl V' (fun b => V.heap.size ≤ b ∧ b < V'.heap.size) Aw nw cw (writesAt r)
  g0 : V.heap.size ≤ gx
  g1 : gx < V'.heap.size
  x0 : V'.cell? ⟨gx, 0, none⟩ = some (.slice Ai ni ci)
  x1 : V'.cell? ⟨gx, 1, none⟩ = some (.int .i64 (blockR r).term.kind)
  hni : (ni : Int) = ((blockR r).ins.length : Int)
noncomputable def C27 : Code := nav ([1, 1, 1, 1, 1, 1, 0, 1, 2, 2, 1, 0, 2] ++ List.replicate 8 1) (Try.f4.body.getD .skip)
noncomputable def C29 : Code := nav ([1, 1, 1, 1, 1, 1, 0, 1, 2, 2, 1, 0, 2] ++ List.replicate 10 1) (Try.f4.body.getD .skip)
/-- what a run's Result, its cells are, in memory that is no run's -/
structure PartR (r : RunS) (S : Nat → Prop) (V' : World) (gw : Nat) (Awc Awm : Option Addr) (nwc cwc nwm cwm : Nat) : Prop where
  hg : S gw ∧ gw < V'.heap.size
  w0 : V'.cell? ⟨gw, 0, none⟩ = some (.int .i64 r.fin)
  w2 : V'.cell? ⟨gw, 2, none⟩ = some (.slice Awc nwc cwc)
  w3 : V'.cell? ⟨gw, 3, none⟩ = some (.slice Awm nwm cwm)
  w4 : V'.cell? ⟨gw, 4, none⟩ = some (.int .i64 r.steps)
  mem : Sl V' S Awm nwm cwm r.mem
  nc : nwc = r.calls.length
structure PartO (r : RunS) (m : Machine) (N : Nat) (S : Nat → Prop) (V' : World) (Aol Ahl : Option Addr) (col chl : Nat) : Prop where
  o : Sl V' S Aol N col (valsR r m N)
  h : Sl V' S Ahl N chl (hasR r m N)
noncomputable def C31 : Code := nav ([1, 1, 1, 1, 1, 1, 0, 1, 2, 2, 1, 0, 2] ++ List.replicate 11 1) (Try.f4.body.getD .skip)
theorem cell_same {V V' : World} {b j : Nat} (h : V'.heap[b]? = V.heap[b]?) : V'.cell? ⟨b, j, none⟩ = V.cell? ⟨b, j, none⟩ := by simp [World.cell?, h]
noncomputable def C34 : Code := nav ([1, 1, 1, 1, 1, 1, 0, 1, 2, 2, 1, 0, 2] ++ List.replicate 13 1) (Try.f4.body.getD .skip)
noncomputable def C42 : Code := nav ([1, 1, 1, 1, 1, 1, 0, 1, 2, 2, 1, 0, 2] ++ List.replicate 15 1) (Try.f4.body.getD .skip)
theorem valsR_at (r : RunS) (m : Machine) {N k : Nat} (h : k < N) : (valsR r m N)[k]? = some ((r.cells (placeN m k)).getD 0) := by unfold valsR; simp [List.getElem?_map, List.getElem?_range h]
theorem hasR_at (r : RunS) (m : Machine) {N k : Nat} (h : k < N) : (hasR r m N)[k]? = some (r.cells (placeN m k)).isSome := by unfold hasR; simp [List.getElem?_map, List.getElem?_range h]
end Go.Proofs.Ytkjipgelbjaggaa
