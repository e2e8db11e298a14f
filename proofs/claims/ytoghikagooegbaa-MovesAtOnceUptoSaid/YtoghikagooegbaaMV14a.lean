/- Law 26: two machines are compared; the machine's cells, said of places. -/
import Derived.Test.YtoghikagooegbaaMV13
import Derived.ChangeKeysEq
import Derived.Laws.StructEq
set_option linter.unusedSimpArgs false
set_option linter.unusedVariables false
namespace Go.Proofs.Ytoghikagooegbaa
open Go.RowKit Go.Maps

theorem run_equalIn_same {P : Program} (w : World) (d : Nat) (t e : TypeId) (len : Nat) (i : TypeInfo) (ht : P.underlying t = some (.array len e)) (he : P.underlying e = some (.int .i64)) (hp : P.plainKey e = true) (hi : P.info? e = some i) (hc : P.cellsOf e = 1)
    (f : Nat → Int) (xs ys : Array Value) (hx : ∀ j, j < len → xs[j]? = some (.int .i64 (f j))) (hy : ∀ j, j < len → ys[j]? = some (.int .i64 (f j))) :
    (Op.equalIn (d + 2) t (.agg xs) (.agg ys)).run P w = .ok true w := by
  rw [Op.equalIn]
  simp only [Sem.run_bind, run_underlying ht, Result.andThen_ok, run_sizeOf w hi, hc, Std.Legacy.Range.forIn_eq_forIn_range', Std.Legacy.Range.size, Nat.sub_zero, Nat.add_sub_cancel, Nat.div_one, Nat.mul_one]
  have hl : ∀ j ∈ List.range' 0 len 1, j < len := fun j hj => by have := List.mem_range'.1 hj; omega
  generalize List.range' 0 len 1 = l at hl ⊢
  induction l with
  | nil => simp
  | cons a l ih =>
    have ha := hl a (by simp)
    have hb := run_equalIn_int (P := P) w d e .i64 .i64 (f a) (f a) he
    simp only [List.forIn_cons, Sem.run_bind, run_part_plain w hp (hx a ha), run_part_plain w hp (hy a ha), Result.andThen_ok, hb]
    simp only [beq_self_eq_true, Bool.not_true, Bool.false_eq_true, if_false, Sem.run_pure, Result.andThen_ok]
    exact ih fun j hj => hl j (List.mem_cons_of_mem _ hj)
theorem run_part_array {P : Program} {e t : TypeId} {n : Nat} {i : TypeInfo} (w : World) (ht : P.underlying t = some (.array n e)) (hi : P.info? t = some i) (hc : P.cellsOf t = n) (cs : Array Value) (off : Nat) : (part t cs off).run P w = .ok (.agg (cs.extract off (off + n))) w := by
  simp [part, isAgg, run_underlying ht, run_sizeOf w hi, hc, Result.andThen]
theorem machine_fields : ∃ f1 f2 : Field, (Try.prog.fieldsOf 59).toList = [f1, f2] ∧ f1.name = "regs" ∧ f1.type = 56 ∧ f1.offset = 0 ∧ f2.name = "slots" ∧ f2.type = 57 ∧ f2.offset = 64 := by
  have hm : (Try.prog.fieldsOf 59).toList.map (fun f => (f.name, f.type, f.offset)) = [("regs", 56, 0), ("slots", 57, 64)] := by kernel_rfl
  generalize (Try.prog.fieldsOf 59).toList = l at hm
  cases l with
  | nil => cases hm
  | cons f1 l =>
    cases l with
    | nil => rw [List.map_cons, List.map_nil] at hm; injection hm with _ h; cases h
    | cons f2 l =>
      rw [List.map_cons, List.map_cons] at hm
      injection hm with q1 hm
      injection hm with q2 hm
      cases l with
      | cons f3 l => cases hm
      | nil =>
        injection q1 with q1 q3
        injection q3 with q3 q4
        injection q2 with q2 q5
        injection q5 with q5 q6
        exact ⟨f1, f2, rfl, q1, q3, q4, q2, q5, q6⟩
theorem machine_under : Try.prog.underlying 59 = some (.struct (Try.prog.fieldsOf 59)) := by kernel_rfl
theorem machine_stood : Try.prog.stoodInHeld 59 = false := by kernel_rfl
theorem eq_machine (w : World) (f : Nat → Int) (c1 c2 : Array Value) (h1 : ∀ i, i < 464 → c1[i]? = some (.int .i64 (f i))) (h2 : ∀ i, i < 464 → c2[i]? = some (.int .i64 (f i))) :
    (Op.equalIn 10000 59 (.agg c1) (.agg c2)).run Try.prog w = .ok true w := by
  obtain ⟨f1, f2, hf, n1, t1, o1, n2, t2, o2⟩ := machine_fields
  rw [run_equalIn_struct w 9999 59 c1 c2 machine_under machine_stood, hf]
  obtain ⟨i0, hi0⟩ : ∃ i, Try.prog.info? 3 = some i := Option.isSome_iff_exists.1 (by kernel_rfl)
  obtain ⟨i1, hi1⟩ : ∃ i, Try.prog.info? 56 = some i := Option.isSome_iff_exists.1 (by kernel_rfl)
  obtain ⟨i2, hi2⟩ : ∃ i, Try.prog.info? 57 = some i := Option.isSome_iff_exists.1 (by kernel_rfl)
  have u1 : Try.prog.underlying 56 = some (.array 64 3) := by kernel_rfl
  have u2 : Try.prog.underlying 57 = some (.array 400 3) := by kernel_rfl
  have k1 := run_part_array (P := Try.prog) w u1 hi1 (by kernel_rfl)
  have k2 := run_part_array (P := Try.prog) w u2 hi2 (by kernel_rfl)
  have s1 : c1.size ≥ 464 := by
    rcases Nat.lt_or_ge c1.size 464 with h | h
    · have := h1 c1.size h; simp at this
    · exact h
  have s2 : c2.size ≥ 464 := by
    rcases Nat.lt_or_ge c2.size 464 with h | h
    · have := h2 c2.size h; simp at this
    · exact h
  have e1 : (Op.equalIn 9999 56 (.agg (c1.extract 0 (0 + 64))) (.agg (c2.extract 0 (0 + 64)))).run Try.prog w = .ok true w := run_equalIn_same (P := Try.prog) w 9997 56 3 64 i0 u1 (by kernel_rfl) (by kernel_rfl) hi0 (by kernel_rfl) f (c1.extract 0 (0 + 64)) (c2.extract 0 (0 + 64))
    (fun j hj => by rw [Array.getElem?_extract]; simp only [Nat.zero_add]; rw [if_pos (by omega)]; exact h1 j (by omega)) (fun j hj => by rw [Array.getElem?_extract]; simp only [Nat.zero_add]; rw [if_pos (by omega)]; exact h2 j (by omega))
  have e2 : (Op.equalIn 9999 57 (.agg (c1.extract 64 (64 + 400))) (.agg (c2.extract 64 (64 + 400)))).run Try.prog w = .ok true w := run_equalIn_same (P := Try.prog) w 9997 57 3 400 i0 u2 (by kernel_rfl) (by kernel_rfl) hi0 (by kernel_rfl) (fun j => f (64 + j)) (c1.extract 64 (64 + 400)) (c2.extract 64 (64 + 400))
    (fun j hj => by rw [Array.getElem?_extract]; rw [if_pos (by omega)]; exact h1 (64 + j) (by omega)) (fun j hj => by rw [Array.getElem?_extract]; rw [if_pos (by omega)]; exact h2 (64 + j) (by omega))
  clear h1 h2 s1 s2 hf hi0 hi1 hi2 u1 u2
  generalize hd : 9999 = D at e1 e2 ⊢
  clear hd
  rw [Op.eqFields, if_pos (by rw [n1]; decide), t1, o1, Sem.run_bind, k1, Result.andThen_ok]
  try dsimp only
  rw [Sem.run_bind, k1, Result.andThen_ok]
  try dsimp only
  rw [Sem.run_bind, e1, Result.andThen_ok]
  try dsimp only
  rw [if_neg (by decide), Op.eqFields, if_pos (by rw [n2]; decide), t2, o2, Sem.run_bind, k2, Result.andThen_ok]
  try dsimp only
  rw [Sem.run_bind, k2, Result.andThen_ok]
  try dsimp only
  rw [Sem.run_bind, e2, Result.andThen_ok]
  try dsimp only
  rw [if_neg (by decide), Op.eqFields, Sem.run_pure]
/-- Which cell a place is. -/
def cellN (p : Loc) : Nat := if p.slot = true then 64 + p.n.toNat else p.n.toNat
theorem cellN_lt {p : Loc} (h : okL p = true) : cellN p < 464 := by
  unfold okL at h
  simp only [Bool.and_eq_true, decide_eq_true_eq] at h
  unfold cellN
  split
  · rename_i hs; rw [if_pos hs] at h; omega
  · rename_i hs; rw [if_neg hs] at h; omega
theorem cellN_inj {p q : Loc} (hp : okL p = true) (hq : okL q = true) (h : cellN p = cellN q) : p = q := by
  obtain ⟨s1, n1⟩ := p
  obtain ⟨s2, n2⟩ := q
  unfold okL at hp hq
  unfold cellN at h
  cases s1 <;> cases s2 <;> simp at hp hq h ⊢ <;> omega
def locN (i : Nat) : Loc := if i < 64 then ⟨false, i⟩ else ⟨true, (i : Int) - 64⟩
theorem locN_ok {i : Nat} (h : i < 464) : okL (locN i) = true ∧ cellN (locN i) = i := by
  unfold locN
  split
  · unfold okL cellN; simp; omega
  · unfold okL cellN; simp; omega
def startM (p : Loc) : Int := if p.slot = true then 1000 + p.n else p.n
theorem startF_cell {p : Loc} (h : okL p = true) : startF (cellN p) = startM p := by
  obtain ⟨s, n⟩ := p
  unfold okL at h
  unfold startF cellN startM
  cases s <;> simp at h ⊢
  · rw [if_pos (by omega)]; omega
  · omega
/-- The instructions, done one behind the other, on cells. -/
def doneF (f : Nat → Int) (r : List Move) : Nat → Int := r.foldl (fun f m => setN f (cellN m.dst) (f (cellN m.src))) f
def wantF (f : Nat → Int) (l : List Move) : Nat → Int := l.foldl (fun f m => setN f (cellN m.dst) (startM m.src)) f
theorem doneF_snoc (f : Nat → Int) (r : List Move) (m : Move) : doneF f (r ++ [m]) = setN (doneF f r) (cellN m.dst) (doneF f r (cellN m.src)) := by unfold doneF; rw [List.foldl_append]; rfl
theorem wantF_snoc (f : Nat → Int) (l : List Move) (m : Move) : wantF f (l ++ [m]) = setN (wantF f l) (cellN m.dst) (startM m.src) := by unfold wantF; rw [List.foldl_append]; rfl
theorem done_run (r : List Move) (hr : ∀ m ∈ r, okL m.src = true ∧ okL m.dst = true) : ∀ (f : Nat → Int) (M : Loc → Int), (∀ p, okL p = true → f (cellN p) = M p) → ∀ p, okL p = true → doneF f r (cellN p) = runM M r p := by
  induction r with
  | nil => intro f M h p hp; exact h p hp
  | cons m r ih =>
    intro f M h p hp
    have hm := hr m (by simp)
    refine ih (fun x hx => hr x (by simp [hx])) _ _ (fun q hq => ?_) p hp
    simp only [setN, execM]
    by_cases e : q = m.dst
    · subst e; simp [h _ hm.1]
    · rw [if_neg (fun h => e (cellN_inj hq hm.2 h)), if_neg e]; exact h q hq
theorem want_run (l : List Move) (hl : ∀ m ∈ l, okL m.src = true ∧ okL m.dst = true) : ∀ (f : Nat → Int) (W : Loc → Int), (∀ p, okL p = true → f (cellN p) = W p) → ∀ p, okL p = true → wantF f l (cellN p) = l.foldl (fun W m p => if p = m.dst then startM m.src else W p) W p := by
  induction l with
  | nil => intro f M h p hp; exact h p hp
  | cons m r ih =>
    intro f M h p hp
    have hm := hl m (by simp)
    refine ih (fun x hx => hl x (by simp [hx])) _ _ (fun q hq => ?_) p hp
    simp only [setN]
    by_cases e : q = m.dst
    · subst e; simp
    · rw [if_neg (fun h => e (cellN_inj hq hm.2 h)), if_neg e]; exact h q hq
/-- THE STAGE'S THEOREM, on cells. -/
theorem at_once_cells {l : List Move} {t : Int} (h : Sound l (spL t)) : ∀ i, i < 464 → i ≠ cellN (spL t) → doneF startF (rowOf (spL t) (busyM l)) i = wantF startF l i := by
  intro i hi hne
  obtain ⟨h1, h2⟩ := locN_ok hi
  have e1 := done_run (rowOf (spL t) (busyM l)) (fun m hm => (row_ok _ (StatM.of h rfl) m hm).1) startF startM (fun p hp => startF_cell hp) (locN i) h1
  have e2 := want_run l (fun m hm => h.ok m hm) startF startM (fun p hp => startF_cell hp) (locN i) h1
  rw [h2] at e1 e2
  rw [e1, e2]
  exact atOnce h rfl startM (locN i) (fun e => hne (by rw [← h2, e]))
end Go.Proofs.Ytoghikagooegbaa
