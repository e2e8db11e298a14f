/- Walks: sets of registers, with what they hold; those that a call loses. Plain: the registers that a call loses. Plain: what a run does. -/
import Derived.Test.YtkjipgelbjaggaaM19
import Derived.Test.YtkjipgelbjaggaaM13
import Derived.Test.YtkjipgelbjaggaaM14
import Derived.Test.YtkjipgelbjaggaaM15
set_option linter.unusedSimpArgs false
set_option linter.unusedVariables false
namespace Go.Proofs.Ytkjipgelbjaggaa
open Go.RowKit
def RetOf2 (xs : List Int) (b : Bool) (w : World) (e : Ending) (w' : World) : Prop := ∃ T : Array Value, e = .returned (.tuple #[.agg T, .bool b]) ∧ (T.size = 64 ∧ T.all (·.oneCell') = true) ∧ (b = true → ∀ j : Nat, j < 64 → T[j]? = some (.bool (hasI j xs))) ∧ ∃ u : Ext, w' = w.ext u
theorem of2_any (w : World) (S : Nat → Prop) (A : Option Addr) (n c : Nat) (regs : Int) (xs : List Int) (h : Sl w S A n c xs) (hr : regs ≤ 64) :
    Calls Try.prog 82 #[.int .i64 regs, .slice A n c] w (RetOf2 xs (argsOk regs [] xs) w) := by
  have hn := h.nle
  have HL := hide h.len
  have HS := hide h; clear h
  have close : ∀ (b : Bool) (T : Array Value), T.size = 64 → (∀ j, j < 64 → ∃ b, T[j]? = some (.bool b)) → (b = true → ∀ j : Nat, j < 64 → T[j]? = some (.bool (hasI j xs))) → RetOf2 xs b w (.returned (.tuple #[.agg T, .bool b])) (w.alloc (.cells T 151)) := by
    intro b T hT hx hfin
    refine ⟨T, rfl, ⟨hT, ?_⟩, hfin, ext_alloc w _⟩
    rw [Array.all_eq_true]
    intro i hi
    obtain ⟨b, hb⟩ := hx i (by omega)
    rw [Array.getElem?_eq_getElem hi] at hb
    rw [Option.some.inj hb]; rfl
  have CL := hide close; clear close
  go_enter Try.func82, Try.ntmps82
  go_wp2
  go_loopw [10] (fun i wr => ∃ k : Nat, ∃ T : Array Value, ∃ pre : List Int, k ≤ n ∧ i = .int .i64 k ∧ wr = w.alloc (.cells T 151) ∧ T.size = 64 ∧ (∀ j : Nat, j < 64 → T[j]? = some (.bool (hasI j pre))) ∧ argsOk regs [] xs = argsOk regs pre (xs.drop k) ∧ ∀ v, v ∈ pre ↔ v ∈ xs.take k) (fun i _ => n - (intOf i).toNat)
  case atStart => exact ⟨0, _, [], Nat.zero_le _, rfl, rfl, rfl, fun j hj => by show (Array.replicate 64 (Value.bool false))[j]? = _; simp [hj, hasI], rfl, by simp⟩
  case round =>
    obtain ⟨k, T, pre, hk, rfl, rfl, hT, hx, hr', hpre⟩ := hrel
    have HPRE := hide hpre; clear hpre
    have HX := hide hx; have HT := hide hT; have HR := hide hr'
    clear hx hT hr'
    have HLV := hide (run_loadVar_new (P := Try.prog) w 151 T 64 4 Try.underlying151 (by rw [HT.out]; exact size_set))
    have HA := hide (show T.all (·.oneCell') = true by
      rw [Array.all_eq_true]
      intro i hi
      have hb := HX.out i (by rw [← HT.out]; exact hi)
      rw [Array.getElem?_eq_getElem hi] at hb
      rw [Option.some.inj hb]; rfl)
    have HSZ := hide (show (Try.prog.info? 151).map (·.size) = some T.size by rw [HT.out]; exact size_set)
    have hcl : ∀ b, (b = true → ∀ j : Nat, j < 64 → T[j]? = some (.bool (hasI j xs))) → RetOf2 xs b w (.returned (.tuple #[.agg T, .bool b])) (w.alloc (.cells T 151)) := fun b => CL.out b T HT.out fun j hj => ⟨_, HX.out j hj⟩
    have HCL := hide hcl; clear hcl
    have hres : ∀ b, argsOk regs [] xs = b → RetOf2 xs b w (.returned (.tuple #[.agg T, .bool b])) (w.alloc (.cells T 151)) → RetOf2 xs (argsOk regs [] xs) w (.returned (.tuple #[.agg T, .bool b])) (w.alloc (.cells T 151)) := fun b h h' => by rw [h]; exact h'
    have HRES := hide hres; clear hres
    by_cases hlt : k < n
    · obtain ⟨b, off, x, rfl, hb, hx, hi, hc⟩ := at_int HS.out hlt
      have HD := hide (drop_at hx); have HI := hide hi; have TK := hide (take_at hx)
      clear hx hi
      by_cases h0 : x < 0
      · have hf : argsOk regs [] xs = false := by rw [HR.out, HD.out]; simp [argsOk]; intro h; omega
        have HF := hide hf; clear hf
        go_wp2_with (first | (refine wpList_load_row rfl 151 (.tmp 4) rfl w.heap.size rfl 151 T (0, 0) _ (heap_alloc_last w _) Try.underlying151 rfl HSZ.out ?_) | (refine wpList_store_new rfl 151 (.tmp 4) (.tmp 26) rfl w w.heap.size T T rfl rfl rfl rfl HSZ.out rfl HA.out ?_))
        refine bodyPost_ret (v := .tuple #[.agg T, .bool false]) (results_cell_tmp Try.results82 _ _ rfl HLV.out) rfl (HRES.out false HF.out (HCL.out _ (fun h => by cases h)))
      by_cases h1 : regs ≤ x
      · have hf : argsOk regs [] xs = false := by rw [HR.out, HD.out]; simp [argsOk]; intro _ h; omega
        have HF := hide hf; clear hf
        have h0' : decide (x < 0) = false := by simpa using h0
        clear h0
        go_wp2_with (first | (refine wpList_load_row rfl 151 (.tmp 4) rfl w.heap.size rfl 151 T (0, 0) _ (heap_alloc_last w _) Try.underlying151 rfl HSZ.out ?_) | (refine wpList_store_new rfl 151 (.tmp 4) (.tmp 26) rfl w w.heap.size T T rfl rfl rfl rfl HSZ.out rfl HA.out ?_))
        refine bodyPost_ret (v := .tuple #[.agg T, .bool false]) (results_cell_tmp Try.results82 _ _ rfl HLV.out) rfl (HRES.out false HF.out (HCL.out _ (fun h => by cases h)))
      obtain ⟨j, rfl⟩ := Int.eq_ofNat_of_zero_le (show 0 ≤ x by omega)
      have hj : j < 64 := by omega
      have hc' := HX.out j hj
      have h0' : decide ((j : Int) < 0) = false := by simp
      have h1' : decide ((j : Int) ≥ regs) = false := by simp; omega
      have h2 : (j : Int) < 64 := by omega
      by_cases hp : hasI j pre = true
      · have hf : argsOk regs [] xs = false := by rw [HR.out, HD.out]; simp [argsOk, hp]
        have HF := hide hf; clear hf
        rw [hp] at hc'
        have HP := hide hp; clear hp h0
        go_wp2_with (first | (refine wpList_load_row rfl 151 (.tmp 4) rfl w.heap.size rfl 151 T (0, 0) _ (heap_alloc_last w _) Try.underlying151 rfl HSZ.out ?_) | (refine wpList_store_new rfl 151 (.tmp 4) (.tmp 26) rfl w w.heap.size T T rfl rfl rfl rfl HSZ.out rfl HA.out ?_))
        refine bodyPost_ret (v := .tuple #[.agg T, .bool false]) (results_cell_tmp Try.results82 _ _ rfl HLV.out) rfl (HRES.out false HF.out (HCL.out _ (fun h => by cases h)))
      · have hp' : hasI j pre = false := by simpa using hp
        rw [hp'] at hc'
        have HP := hide hp'; clear hp hp' h0
        go_wp2
        go_roundw
        case rel =>
          refine ⟨k + 1, T.setIfInBounds j (.bool true), (j : Int) :: pre, by omega, by go_num, rfl, by simp [HT.out], fun i hi => ?_, ?_, fun v => ?_⟩
          · rw [Array.getElem?_setIfInBounds]
            by_cases e : j = i
            · subst e; rw [if_pos rfl, if_pos (by rw [HT.out]; omega)]; simp [hasI]
            · rw [if_neg e, HX.out i hi]
              have : ((j : Int) == (i : Int)) = false := by rw [beq_eq_false_iff_ne]; omega
              simp [hasI, this]
          · rw [HR.out, HD.out]
            have : (j : Int) < regs := by omega
            simp [argsOk, HP.out, this]
          · rw [TK.out, List.mem_cons, List.mem_append, List.mem_singleton, HPRE.out v]; exact or_comm
        case measure => simp [intOf]; omega
    · have hf : argsOk regs [] xs = true := by rw [HR.out, drop_end HL.out hlt]; rfl
      have HF := hide hf; clear hf
      go_wp2_with (first | (refine wpList_load_row rfl 151 (.tmp 4) rfl w.heap.size rfl 151 T (0, 0) _ (heap_alloc_last w _) Try.underlying151 rfl HSZ.out ?_) | (refine wpList_store_new rfl 151 (.tmp 4) (.tmp 30) rfl w w.heap.size T T rfl rfl rfl rfl HSZ.out rfl HA.out ?_))
      refine bodyPost_ret (v := .tuple #[.agg T, .bool true]) (results_cell_tmp Try.results82 _ _ rfl HLV.out) rfl (HRES.out true HF.out (HCL.out _ (fun _ j hj => by rw [HX.out j hj, hasI_mem (l := pre) (m := xs) (fun v => by rw [HPRE.out v, take_end HL.out hlt])])))

end Go.Proofs.Ytkjipgelbjaggaa
set_option linter.unusedSimpArgs false
set_option linter.unusedVariables false
namespace Go.Proofs.Ytkjipgelbjaggaa
open Go.RowKit
/-- The registers below n that are not among xs, in order. -/
def lostTo (n : Nat) (xs : List Int) : List Int := ((List.range n).filter fun j : Nat => !hasI (j : Int) xs).map fun j : Nat => (j : Int)
def lostM (m : Machine) : List Int := if rightM m then lostTo m.regs.toNat m.saved else []
theorem lostTo_succ (k : Nat) (xs : List Int) : lostTo (k + 1) xs = lostTo k xs ++ (if hasI k xs then [] else [(k : Int)]) := by
  unfold lostTo
  rw [List.range_succ, List.filter_append, List.map_append]
  by_cases h : hasI k xs = true
  · simp [h]
  · simp [h]
theorem lostTo_len (k : Nat) (xs : List Int) : (lostTo k xs).length ≤ k := by
  unfold lostTo
  rw [List.length_map]
  exact Nat.le_trans (List.length_filter_le _ _) (by simp)
theorem lostTo_all (n : Nat) (xs : List Int) (h : ∀ k, k < n → hasI k xs = false) : ∀ k ≤ n, lostTo k xs = (List.range k).map fun j : Nat => (j : Int) := by
  intro k hk
  unfold lostTo
  rw [List.filter_eq_self.2 fun j hj => by rw [h j (by have := List.mem_range.1 hj; omega)]; rfl]
theorem lostTo_mem {n : Nat} {xs : List Int} {v : Int} : v ∈ lostTo n xs ↔ 0 ≤ v ∧ v < n ∧ hasI v xs = false := by
  unfold lostTo
  rw [List.mem_map]
  constructor
  · rintro ⟨j, hj, rfl⟩
    obtain ⟨h1, h2⟩ := List.mem_filter.1 hj
    exact ⟨by omega, by have := List.mem_range.1 h1; omega, by simpa using h2⟩
  · rintro ⟨h0, h1, h2⟩
    obtain ⟨j, rfl⟩ := Int.eq_ofNat_of_zero_le h0
    exact ⟨j, List.mem_filter.2 ⟨List.mem_range.2 (by omega), by simpa using h2⟩, rfl⟩
end Go.Proofs.Ytkjipgelbjaggaa
set_option linter.unusedSimpArgs false
set_option linter.unusedVariables false
namespace Go.Proofs.Ytkjipgelbjaggaa
open Go.RowKit Go.Maps
def delAll (f : Loc → Option Int) : List Int → Loc → Option Int
  | [] => f
  | n :: l => delAll (upd f ⟨false, n⟩ none) l
def setAll (v : Int) (f : Loc → Option Int) : List Loc → Loc → Option Int
  | [] => f
  | x :: l => setAll v (upd f x (some v)) l
theorem delAll_snoc (f : Loc → Option Int) (l : List Int) (n : Int) : delAll f (l ++ [n]) = upd (delAll f l) ⟨false, n⟩ none := by
  induction l generalizing f with
  | nil => rfl
  | cons x l ih => exact ih _
theorem setAll_snoc (v : Int) (f : Loc → Option Int) (l : List Loc) (x : Loc) : setAll v f (l ++ [x]) = upd (setAll v f l) x (some v) := by
  induction l generalizing f with
  | nil => rfl
  | cons y l ih => exact ih _
def argsC (f : Loc → Option Int) (l : List Loc) : List Int := l.map fun x => (f x).getD 0
def noteR (r : RunS) (i : Ins) : RunS := { r with calls := r.calls ++ [⟨i.callee, argsC r.cells (readsP r.m i)⟩] }
def callR9 (r : RunS) (i : Ins) : RunS × Bool :=
  if r.answers = [] then (noteR r i, false) else ({ noteR r i with cells := delAll r.cells (lostM r.m) }, true)
def memN (r : RunS) (i : Ins) : Int := wrap64 ((r.cells ⟨false, i.a⟩).getD 0 + i.imm)
def valueR (r : RunS) (i : Ins) : RunS × Int × Bool :=
  if i.op = 1 then (r, i.imm, true)
  else if i.op = 13 then (if (callR9 r i).2 then ({ (callR9 r i).1 with answers := r.answers.tail }, (r.answers.head?.getD 0), true) else ((callR9 r i).1, 0, false))
  else if i.op = 11 then (if 0 ≤ memN r i ∧ memN r i < r.mem.length then (r, r.mem.getD (memN r i).toNat 0, true) else (r, 0, false))
  else if i.op = 12 then (if 0 ≤ memN r i ∧ memN r i < r.mem.length then ({ r with mem := r.mem.set (memN r i).toNat ((r.cells ⟨false, i.b⟩).getD 0) }, (r.cells ⟨false, i.b⟩).getD 0, true) else (r, 0, false))
  else if insertedB i.op then (r, (r.cells ((readsP r.m i).headD ⟨false, 0⟩)).getD 0, true)
  else (r, (calcC i.op ((r.cells ⟨false, i.a⟩).getD 0) ((r.cells ⟨false, i.b⟩).getD 0)).1, (calcC i.op ((r.cells ⟨false, i.a⟩).getD 0) ((r.cells ⟨false, i.b⟩).getD 0)).2)
/-- where it goes on, or how it has ended -/
inductive Nxt where
  | spot (block ins : Int)
  | done (fin value : Int)
def insR9 (r : RunS) (i : Ins) : RunS × Nxt :=
  if wholeC r.cells (readsP r.m i) then
    (if (valueR r i).2.2 then ({ (valueR r i).1 with cells := setAll (valueR r i).2.1 (valueR r i).1.cells (writesP r.m i) }, .spot r.block (r.ins + 1)) else ((valueR r i).1, .done 2 0))
  else (r, .done 3 0)
open Classical in
noncomputable def keptR (r : RunS) : Bool := decide (∀ l n, r.first l = some n → r.cells l = some n)
noncomputable def termR9 (r : RunS) (t : Term) : Nxt :=
  if wholeC r.cells (needsP t) then
    (if t.kind = 4 then .done 2 0
    else if t.kind = 3 then (if keptR r then .done 1 ((r.cells ⟨false, t.a⟩).getD 0) else .done 3 0)
    else if t.kind = 2 ∧ (r.cells ⟨false, t.a⟩).getD 0 = 0 then .spot t.to1 0 else .spot t.to0 0)
  else .done 3 0
def goR (r : RunS) : Nxt → RunS
  | .spot b i => { r with block := b, ins := i }
  | .done e v => { r with fin := e, value := v }
def blockR (r : RunS) : Block := r.t.blocks.getD r.block.toNat default
noncomputable def stepR (r : RunS) : RunS × Bool :=
  if r.fin ≠ 0 then (r, false)
  else if r.ins < (blockR r).ins.length then
    (goR (insR9 { r with steps := r.steps + 1 } ((blockR r).ins.getD r.ins.toNat default)).1 (insR9 { r with steps := r.steps + 1 } ((blockR r).ins.getD r.ins.toNat default)).2, true)
  else (goR { r with steps := r.steps + 1 } (termR9 { r with steps := r.steps + 1 } (blockR r).term), true)
end Go.Proofs.Ytkjipgelbjaggaa
