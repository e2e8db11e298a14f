/- Walks: sets of registers. -/
import Derived.Test.YtbppamjogdjfkaaN6
import Derived.Test.YtbppamjogdjfkaaW1
import Derived.Deep.WholeRow
set_option linter.unusedSimpArgs false
set_option linter.unusedVariables false
namespace Go.Proofs.Ytbppamjogdjfkaa
open Go.RowKit

theorem info_set : (Try.prog.info? 60).map (fun i => (i.zero, i.size)) = some (some (.agg (Array.replicate 64 (.bool false))), 64) := by kernel_rfl
theorem size_set : (Try.prog.info? 60).map (·.size) = some 64 := (zero_of_info info_set).2
theorem results_cell_tmp {P : Program} {fn : Func} {p t : Tmp} {ty : TypeId} {a : Addr} {v : Value} (h : fn.results = #[.cell p ty, .tmp t]) (tmps : Array Value) (w : World)
    (hp : tmps.getD p undef = .pointer (some a)) (hl : (loadVar ty a).run P w = .ok v w) : (results fn tmps).run P w = .ok (.tuple #[v, tmps.getD t undef]) w := by
  have hp' : tmps[p]?.getD undef = .pointer (some a) := by simpa using hp
  simp [results, h, hp', asAddr, hl]
/-- A whole array, stored into the block that was made last. -/
theorem wpList_store_new {P : Program} {ops : Array Oper} {rest : List Oper} {o : Oper} {a : Act} {Q : Exit → Act → World → Prop} {Wg : World} (hgd : o.guard = none) (ty : TypeId) (x y : Operand) (ho : o.op = .store ty x y)
    (w : World) (g : Nat) (c c' : Array Value) (hWg : Wg = w.alloc (.cells c ty)) (hx : a.eval x = .pointer (some ⟨g, 0, none⟩)) (hg : g = w.heap.size) (hy : a.eval y = .agg c') (hi : (P.info? ty).map (·.size) = some c'.size) (hs : c.size = c'.size) (h1 : c'.all (·.oneCell') = true)
    (h : wpList P ops Q rest (a.put o.dst undef) (w.alloc (.cells c' ty))) : wpList P ops Q (o :: rest) a Wg := by
  subst hg hWg
  have hr := run_storeAt_new (P := P) w ty c c' hi hs h1
  refine wpList_plain hgd fun K hK => ?_
  unfold Oper.wp execOp
  simp only [ho, hx, hy, Sem.run_bind, hr, Result.andThen_ok]
  exact hK _ _ h
/-- It returns a set, and a bool. -/
def RetOf (b : Bool) (w : World) (e : Ending) (w' : World) : Prop := ∃ T : Array Value, e = .returned (.tuple #[.agg T, .bool b]) ∧ (T.size = 64 ∧ T.all (·.oneCell') = true) ∧ ∃ u : Ext, w' = w.ext u
theorem of_any (w : World) (S : Nat → Prop) (A : Option Addr) (n c : Nat) (regs : Int) (xs : List Int) (h : Sl w S A n c xs) (hr : regs ≤ 64) :
    Calls Try.prog 28 #[.int .i64 regs, .slice A n c] w (RetOf (argsOk regs [] xs) w) := by
  have hn := h.nle
  have HL := hide h.len
  have HS := hide h; clear h
  have close : ∀ (b : Bool) (T : Array Value), T.size = 64 → (∀ j, j < 64 → ∃ b, T[j]? = some (.bool b)) → RetOf b w (.returned (.tuple #[.agg T, .bool b])) (w.alloc (.cells T 60)) := by
    intro b T hT hx
    refine ⟨T, rfl, ⟨hT, ?_⟩, ext_alloc w _⟩
    rw [Array.all_eq_true]
    intro i hi
    obtain ⟨b, hb⟩ := hx i (by omega)
    rw [Array.getElem?_eq_getElem hi] at hb
    rw [Option.some.inj hb]; rfl
  have CL := hide close; clear close
  go_enter Try.func28, Try.ntmps28
  go_wp2
  go_loopw [10] (fun i wr => ∃ k : Nat, ∃ T : Array Value, ∃ pre : List Int, k ≤ n ∧ i = .int .i64 k ∧ wr = w.alloc (.cells T 60) ∧ T.size = 64 ∧ (∀ j : Nat, j < 64 → T[j]? = some (.bool (hasI j pre))) ∧ argsOk regs [] xs = argsOk regs pre (xs.drop k)) (fun i _ => n - (intOf i).toNat)
  case atStart => exact ⟨0, _, [], Nat.zero_le _, rfl, rfl, rfl, fun j hj => by show (Array.replicate 64 (Value.bool false))[j]? = _; simp [hj, hasI], rfl⟩
  case round =>
    obtain ⟨k, T, pre, hk, rfl, rfl, hT, hx, hr'⟩ := hrel
    have HX := hide hx; have HT := hide hT; have HR := hide hr'
    clear hx hT hr'
    have HLV := hide (run_loadVar_new (P := Try.prog) w 60 T 64 4 Try.underlying60 (by rw [HT.out]; exact size_set))
    have HA := hide (show T.all (·.oneCell') = true by
      rw [Array.all_eq_true]
      intro i hi
      have hb := HX.out i (by rw [← HT.out]; exact hi)
      rw [Array.getElem?_eq_getElem hi] at hb
      rw [Option.some.inj hb]; rfl)
    have HSZ := hide (show (Try.prog.info? 60).map (·.size) = some T.size by rw [HT.out]; exact size_set)
    have hcl : ∀ b, RetOf b w (.returned (.tuple #[.agg T, .bool b])) (w.alloc (.cells T 60)) := fun b => CL.out b T HT.out fun j hj => ⟨_, HX.out j hj⟩
    have HCL := hide hcl; clear hcl
    have hres : ∀ b, argsOk regs [] xs = b → RetOf b w (.returned (.tuple #[.agg T, .bool b])) (w.alloc (.cells T 60)) → RetOf (argsOk regs [] xs) w (.returned (.tuple #[.agg T, .bool b])) (w.alloc (.cells T 60)) := fun b h h' => by rw [h]; exact h'
    have HRES := hide hres; clear hres
    by_cases hlt : k < n
    · obtain ⟨b, off, x, rfl, hb, hx, hi, hc⟩ := at_int HS.out hlt
      have HD := hide (drop_at hx); have HI := hide hi
      clear hx hi
      by_cases h0 : x < 0
      · have hf : argsOk regs [] xs = false := by rw [HR.out, HD.out]; simp [argsOk]; intro h; omega
        have HF := hide hf; clear hf
        go_wp2_with (first | (refine wpList_load_row rfl 60 (.tmp 4) rfl w.heap.size rfl 60 T (0, 0) _ (heap_alloc_last w _) Try.underlying60 rfl HSZ.out ?_) | (refine wpList_store_new rfl 60 (.tmp 4) (.tmp 26) rfl w w.heap.size T T rfl rfl rfl rfl HSZ.out rfl HA.out ?_))
        refine bodyPost_ret (v := .tuple #[.agg T, .bool false]) (results_cell_tmp Try.results28 _ _ rfl HLV.out) rfl (HRES.out false HF.out (HCL.out _))
      by_cases h1 : regs ≤ x
      · have hf : argsOk regs [] xs = false := by rw [HR.out, HD.out]; simp [argsOk]; intro _ h; omega
        have HF := hide hf; clear hf
        have h0' : decide (x < 0) = false := by simpa using h0
        clear h0
        go_wp2_with (first | (refine wpList_load_row rfl 60 (.tmp 4) rfl w.heap.size rfl 60 T (0, 0) _ (heap_alloc_last w _) Try.underlying60 rfl HSZ.out ?_) | (refine wpList_store_new rfl 60 (.tmp 4) (.tmp 26) rfl w w.heap.size T T rfl rfl rfl rfl HSZ.out rfl HA.out ?_))
        refine bodyPost_ret (v := .tuple #[.agg T, .bool false]) (results_cell_tmp Try.results28 _ _ rfl HLV.out) rfl (HRES.out false HF.out (HCL.out _))
      obtain ⟨j, rfl⟩ := Int.eq_ofNat_of_zero_le (show 0 ≤ x by omega)
      have hj : j < 64 := by omega
      have hc' := HX.out j hj
      have h0' : decide ((j : Int) < 0) = false := by simp
      have h1' : decide ((j : Int) ≥ regs) = false := by simp; omega
      have h2 : (j : Int) < 64 := by omega
      by_cases hp : hasI j pre = true
      · have hf : argsOk regs [] xs = false := by rw [HR.out, HD.out]; simp [argsOk, hp]
        have HF := hide hf; clear hf
        rw [hp] at hc'
        have HP := hide hp; clear hp h0
        go_wp2_with (first | (refine wpList_load_row rfl 60 (.tmp 4) rfl w.heap.size rfl 60 T (0, 0) _ (heap_alloc_last w _) Try.underlying60 rfl HSZ.out ?_) | (refine wpList_store_new rfl 60 (.tmp 4) (.tmp 26) rfl w w.heap.size T T rfl rfl rfl rfl HSZ.out rfl HA.out ?_))
        refine bodyPost_ret (v := .tuple #[.agg T, .bool false]) (results_cell_tmp Try.results28 _ _ rfl HLV.out) rfl (HRES.out false HF.out (HCL.out _))
      · have hp' : hasI j pre = false := by simpa using hp
        rw [hp'] at hc'
        have HP := hide hp'; clear hp hp' h0
        go_wp2
        go_roundw
        case rel =>
          refine ⟨k + 1, T.setIfInBounds j (.bool true), (j : Int) :: pre, by omega, by go_num, rfl, by simp [HT.out], fun i hi => ?_, ?_⟩
          · rw [Array.getElem?_setIfInBounds]
            by_cases e : j = i
            · subst e; rw [if_pos rfl, if_pos (by rw [HT.out]; omega)]; simp [hasI]
            · rw [if_neg e, HX.out i hi]
              have : ((j : Int) == (i : Int)) = false := by rw [beq_eq_false_iff_ne]; omega
              simp [hasI, this]
          · rw [HR.out, HD.out]
            have : (j : Int) < regs := by omega
            simp [argsOk, HP.out, this]
        case measure => simp [intOf]; omega
    · have hf : argsOk regs [] xs = true := by rw [HR.out, drop_end HL.out hlt]; rfl
      have HF := hide hf; clear hf
      go_wp2_with (first | (refine wpList_load_row rfl 60 (.tmp 4) rfl w.heap.size rfl 60 T (0, 0) _ (heap_alloc_last w _) Try.underlying60 rfl HSZ.out ?_) | (refine wpList_store_new rfl 60 (.tmp 4) (.tmp 30) rfl w w.heap.size T T rfl rfl rfl rfl HSZ.out rfl HA.out ?_))
      refine bodyPost_ret (v := .tuple #[.agg T, .bool true]) (results_cell_tmp Try.results28 _ _ rfl HLV.out) rfl (HRES.out true HF.out (HCL.out _))

theorem hasI_iff (v : Int) (l : List Int) : hasI v l = true ↔ v ∈ l := by
  induction l with
  | nil => simp [hasI]
  | cons x l ih =>
    simp only [hasI, Bool.or_eq_true, beq_iff_eq, ih, List.mem_cons]
    constructor
    · rintro (h | h)
      · exact .inl h.symm
      · exact .inr h
    · rintro (h | h)
      · exact .inl h.symm
      · exact .inr h
theorem hasI_mem {v : Int} {l m : List Int} (h : ∀ x, x ∈ l ↔ x ∈ m) : hasI v l = hasI v m := by
  rw [Bool.eq_iff_iff, hasI_iff, hasI_iff, h]
theorem argsOk_mem (regs : Int) (xs : List Int) : ∀ {l m : List Int}, (∀ x, x ∈ l ↔ x ∈ m) → argsOk regs l xs = argsOk regs m xs := by
  induction xs with
  | nil => intros; rfl
  | cons x xs ih =>
    intro l m h
    simp only [argsOk]
    rw [hasI_mem h, ih (l := x :: l) (m := x :: m) (fun y => by simp [h y])]
/-- What 'argsOk' asks, in words. -/
theorem argsOk_iff (regs : Int) (xs : List Int) : ∀ pre : List Int, argsOk regs pre xs = true ↔ (∀ x ∈ xs, 0 ≤ x ∧ x < regs ∧ x ∉ pre) ∧ xs.Nodup := by
  induction xs with
  | nil => intro pre; simp [argsOk]
  | cons x xs ih =>
    intro pre
    have hm : (hasI x pre = false) ↔ x ∉ pre := by rw [← hasI_iff]; simp
    simp only [argsOk, Bool.and_eq_true, decide_eq_true_eq, Bool.not_eq_true', hm, ih, List.mem_cons, List.nodup_cons, not_or]
    constructor
    · rintro ⟨⟨⟨h1, h2⟩, h3⟩, h4, h5⟩
      refine ⟨fun y hy => ?_, fun hx => (h4 x hx).2.2.1 rfl, h5⟩
      rcases hy with rfl | hy
      · exact ⟨h1, h2, h3⟩
      · exact ⟨(h4 y hy).1, (h4 y hy).2.1, (h4 y hy).2.2.2⟩
    · rintro ⟨h1, h2, h3⟩
      refine ⟨⟨⟨(h1 x (.inl rfl)).1, (h1 x (.inl rfl)).2.1⟩, (h1 x (.inl rfl)).2.2⟩, fun y hy => ?_, h3⟩
      exact ⟨(h1 y (.inr hy)).1, (h1 y (.inr hy)).2.1, fun e => h2 (e ▸ hy), (h1 y (.inr hy)).2.2⟩
theorem savedOk_iff (regs : Int) (xs : List Int) : ∀ p : Option Int, savedOk regs p xs = true ↔ (∀ x ∈ xs, 0 ≤ x ∧ x < regs) ∧ (∀ q, p = some q → ∀ x ∈ xs.head?, q < x) ∧ xs.Pairwise (· < ·) := by
  induction xs with
  | nil => intro p; simp [savedOk]
  | cons x xs ih =>
    intro p
    simp only [savedOk, Bool.and_eq_true, decide_eq_true_eq, ih, List.mem_cons, List.head?_cons, Option.mem_def, Option.some.injEq, List.pairwise_cons]
    constructor
    · rintro ⟨⟨⟨h1, h2⟩, h3⟩, h4, h5, h6⟩
      refine ⟨fun y hy => ?_, ?_, ?_, h6⟩
      · rcases hy with rfl | hy
        · exact ⟨h1, h2⟩
        · exact h4 y hy
      · rintro q rfl y rfl
        simpa using h3
      · intro y hy
        cases xs with
        | nil => simp at hy
        | cons z zs =>
          have hz := h5 x rfl z (by simp)
          rcases List.mem_cons.1 hy with rfl | hy
          · exact hz
          · exact Int.lt_trans hz ((List.pairwise_cons.1 h6).1 y hy)
    · rintro ⟨h1, h2, h3, h4⟩
      refine ⟨⟨h1 x (.inl rfl), ?_⟩, fun y hy => h1 y (.inr hy), ?_, h4⟩
      · cases p with
        | none => rfl
        | some q => simpa using h2 q rfl x rfl
      · rintro q rfl y hy
        refine h3 y ?_
        cases xs with
        | nil => simp at hy
        | cons z zs => simp at hy; subst hy; simp
theorem sortedTo_iff (xs : List Int) : ∀ k, sortedTo xs k = true ↔ ∀ i, i < k → xs.getD i 0 ≤ xs.getD (i + 1) 0 := by
  intro k
  induction k with
  | zero => simp [sortedTo]
  | succ k ih =>
    simp only [sortedTo, Bool.and_eq_true, Bool.not_eq_true', decide_eq_false_iff_not, ih]
    constructor
    · rintro ⟨h1, h2⟩ i hi
      by_cases e : i = k
      · subst e; omega
      · exact h2 i (by omega)
    · intro h
      exact ⟨by have := h k (by omega); omega, fun i hi => h i (by omega)⟩
end Go.Proofs.Ytbppamjogdjfkaa
