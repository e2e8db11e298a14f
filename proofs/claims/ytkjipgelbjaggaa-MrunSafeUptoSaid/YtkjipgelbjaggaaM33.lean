/- Walk: what became of a run. -/
import Derived.Test.YtkjipgelbjaggaaM32
set_option linter.unusedSimpArgs false
set_option linter.unusedVariables false
namespace Go.Proofs.Ytkjipgelbjaggaa
open Go.RowKit Go.Maps
/-- a slice of the call's own -/
def OwnP {α : Type} [Rep α] (B n : Nat) (T : TypeId) (S : Nat → Prop) (xs : List α) : Post := fun v w => ∃ A c, v = .slice A n c ∧ OwnL w B T S (.slice A n c) xs
theorem OwnP.stable_ {α : Type} [Rep α] {F : World → Prop} {B n : Nat} {T : TypeId} {S : Nat → Prop} {xs : List α} {mem : Bool} (hm : mem = true) : stable F mem (OwnP B n T S xs) :=
  stable_mem hm fun _ _ u ⟨A, c, hv, h⟩ => ⟨A, c, hv, h.ext u⟩
def ResP (f st : Int) (B n : Nat) (T : TypeId) (xs : List Int) : Post := fun v w => ∃ A c, v = .agg #[.int .i64 f, .int .i64 0, .slice none 0 0, .slice A n c, .int .i64 st] ∧ OwnL w B T (fun _ => False) (.slice A n c) xs
theorem ResP.stable_ {F : World → Prop} {f st : Int} {B n : Nat} {T : TypeId} {xs : List Int} {mem : Bool} (hm : mem = true) : stable F mem (ResP f st B n T xs) :=
  stable_mem hm fun _ _ u ⟨A, c, hv, h⟩ => ⟨A, c, hv, h.ext u⟩
theorem OwnL.base_le {α : Type} [Rep α] {w : World} {base base' : Nat} {T : TypeId} {S : Nat → Prop} {v : Value} {xs : List α} (h : OwnL w base T S v xs) (hb : base' ≤ base) : OwnL w base' T S v xs := by
  obtain ⟨vals, ⟨h1, h⟩, h2⟩ := h
  refine ⟨vals, ⟨h1, ?_⟩, h2⟩
  rcases h with h | ⟨g, cap, cur, e, hg, rest⟩
  · exact .inl h
  · exact .inr ⟨g, cap, cur, e, Nat.le_trans hb hg, rest⟩
theorem HeldAt.mono_ {P : Program} {ops : Array Oper} {F : World → Prop} {wild : Bool} {o : Oper} {a : Act} {p p' : Post} {w : World} (h : HeldAt P ops F wild o a p w) (hp : ∀ v w, p v w → p' v w) : HeldAt P ops F wild o a p' w := by
  unfold HeldAt at *
  split
  · rename_i hw
    rw [if_pos hw] at h
    generalize (execOp a.eval o).run P w = r at *
    cases r with
    | ok n w' =>
      cases n <;> simp only [heldUpon] at h ⊢
      case value u => exact ⟨hp _ _ h.1, h.2⟩
      case skip => exact ⟨hp _ _ h.1, h.2⟩
      case enter f args => exact ⟨h.1, h.2.mono fun e w2 ⟨v, h1, h2, h3⟩ => ⟨v, h1, hp _ _ h2, h3⟩⟩
    | halt x w' => simp only [heldUpon] at h
  · rename_i hw
    rw [if_neg hw] at h
    exact hp _ _ h
theorem onW_row_ext {w0 w : World} {row : Option Nat} {b : Bool} (h : rowF w0 row w) (x : Ext) : onW (rowF w0 row) b w (w.ext x) := ⟨rowF_ext w x h, fun _ => ⟨x, rfl⟩⟩
def CallP (cl : Int) (B n : Nat) (T : TypeId) (xs : List Int) : Post := fun v w => ∃ A c, v = .agg #[.int .i64 cl, .slice A n c] ∧ OwnL w B T (fun _ => False) (.slice A n c) xs
theorem CallP.stable_ {F : World → Prop} {cl : Int} {B n : Nat} {T : TypeId} {xs : List Int} {mem : Bool} (hm : mem = true) : stable F mem (CallP cl B n T xs) :=
  stable_mem hm fun _ _ u ⟨A, c, hv, h⟩ => ⟨A, c, hv, h.ext u⟩
def CallLP (cl : Int) (B n : Nat) (T T' : TypeId) (xs : List Int) : Post := fun v w => ∃ A c, LitP T' [.int .i64 cl, .slice A n c] 1 v w ∧ OwnL w B T (fun _ => False) (.slice A n c) xs
theorem CallLP.stable_ {F : World → Prop} {cl : Int} {B n : Nat} {T T' : TypeId} {xs : List Int} {mem : Bool} (hm : mem = true) : stable F mem (CallLP cl B n T T' xs) :=
  stable_mem hm fun _ w u ⟨A, c, ⟨g, h1, h2⟩, h⟩ => ⟨A, c, ⟨g, h1, by rw [ext_block w u g (Array.getElem?_eq_some_iff.1 h2).1]; exact h2⟩, h.ext u⟩
def PushE {α : Type} [Rep α] (base : Nat) (T : TypeId) (S : Nat → Prop) (row : Option Nat) (B : Nat) (xs : List α) : Post := fun v w => ∃ S' : Nat → Prop, OwnL w base T S' v xs ∧ (v.ownBlock = row ∨ ∃ g, v.ownBlock = some g ∧ B ≤ g) ∧ ∀ b, S' b → (S b ∨ B ≤ b) ∧ b < w.heap.size
theorem PushE.stable_ {α : Type} [Rep α] {F : World → Prop} {base B : Nat} {T : TypeId} {S : Nat → Prop} {row : Option Nat} {xs : List α} {mem : Bool} (hm : mem = true) : stable F mem (PushE base T S row B xs) :=
  stable_mem hm fun _ _ u ⟨S', h, h', h''⟩ => ⟨S', h.ext u, h', fun b hb => ⟨(h'' b hb).1, by rw [size_ext]; have := (h'' b hb).2; omega⟩⟩
/-- what a run tells of itself -/
def RetRes (r : RunS) (w : World) (e : Ending) (w' : World) : Prop :=
  ∃ Ac cc Am cm Sc, e = .returned (.agg #[.int .i64 r.fin, .int .i64 r.value, .slice Ac r.calls.length cc, .slice Am r.mem.length cm, .int .i64 r.steps]) ∧
    OwnL w' w.heap.size 93 Sc (.slice Ac r.calls.length cc) r.calls ∧ OwnL w' w.heap.size 3 (fun _ => False) (.slice Am r.mem.length cm) r.mem ∧ (∀ b, Sc b → w.heap.size ≤ b) ∧ ∃ u : Ext, w' = w.ext u
set_option maxHeartbeats 4000000 in
set_option maxRecDepth 8000 in
theorem result9_any (w : World) (base X K : Nat) (q : RunM) (r : RunS) (h : RunAt w base X K q r) (hml : r.mem.length ≤ 1048576) (hcl : r.calls.length ≤ 1048576) (hal : ∀ c ∈ r.calls, c.args.length ≤ 1048576) :
    Calls Try.prog 23 #[.pointer (some ⟨X, 0, none⟩)] w (RetRes r w) := by
  have HR := hide h
  have HAL := hide hal
  have k0 := h.k0; have k3 := h.k3; have k4 := h.k4; have k12 := h.k12; have k14 := h.k14; have k15 := h.k15; have hlt := h.lt
  obtain ⟨Am, cm, hvm⟩ := h.mem.form
  rw [hvm] at k12
  have HVM := hide hvm
  obtain ⟨M, hM⟩ : ∃ M, M = r.mem.length := ⟨_, rfl⟩
  rw [← hM] at k12
  have HM := hide hM
  clear h hvm hM hal
  have hmn := map_nil
  go_enter Try.func23, Try.ntmps23
  go_wp2_with fail
  obtain ⟨V, hV⟩ : ∃ V, V = w.alloc (.cells #[.int .i64 0, .int .i64 0, .slice none 0 0, .slice none 0 0, .int .i64 0] 37) := ⟨_, rfl⟩
  have HFV := hide (show Below w.heap.size w V by subst hV; exact (by repeat (first | exact Below.refl _ _ | assumption | refine Below.alloc ?_ (by simp [size_ext]; try omega) _ | refine Below.ext ?_ (by simp [size_ext]; try omega) _ | refine Below.drew ?_ | refine Below.setCell ?_ (by simp [size_ext]; try omega) _)))
  have hVs : V.heap.size = w.heap.size + 1 := by subst hV; simp
  have HVs := hide hVs
  have HRb := hide (show V.heap[w.heap.size]? = some (.cells #[.int .i64 0, .int .i64 0, .slice none 0 0, .slice none 0 0, .int .i64 0] 37 (0, 0)) by subst hV; exact heap_alloc_new w _)
  have HRV := hide (HR.out.keep HFV.out)
  rw [← hV]
  clear hV hVs k0 k3 k4 k12 k14 k15 hlt
  have k3 := HRV.out.k3; have k4 := HRV.out.k4; have k12 := HRV.out.k12; have k14 := HRV.out.k14; have k15 := HRV.out.k15; have hlt := HRV.out.lt
  rw [HVM.out, ← HM.out] at k12
  have hmo := HRV.out.mem
  rw [HVM.out, ← HM.out] at hmo
  have HMO := hide (hmo.sl (S' := fun _ => True) (fun _ _ _ => trivial))
  have hM2 : M ≤ 1048576 := by rw [HM.out]; exact hml
  clear hmo
  refine wp_region_last_ext [] [9, 14] 15 (by kernel_rfl) rfl rfl rfl (by kernel_rfl) (by kernel_rfl) ?_
  simp only [List.take_succ_cons, List.take_zero]
  repeat (refine flow_known (by kernel_rfl) (fun K hK => ?_); go_simp; (first | (refine hK _ ?_; clear hK K) | (apply Exists.intro; refine ⟨fun _ => ?_, hK _ ?_⟩; (fail); clear hK K)))
  refine flow_keep0 (OwnP V.heap.size M 3 (fun _ => False) r.mem) (by kernel_rfl) (OwnP.stable_ rfl) ?_ ?_
  · intro u
    go_simp
    refine (clone_ints _ _ Am M cm r.mem (HMO.out.ext u) hM2).mono ?_
    rintro e _ ⟨A', c', rfl, hs, x', rfl⟩
    refine ⟨_, rfl, ⟨A', c', by rw [HM.out], ?_⟩, onW_ext ⟨_, rfl⟩ ⟨x', rfl⟩⟩
    rw [HM.out]
    exact (hs.ints).base_le (by rw [size_ext]; omega)
  repeat (refine flow_known (by kernel_rfl) (fun K hK => ?_); go_simp; (first | (refine hK _ ?_; clear hK K) | (apply Exists.intro; refine ⟨fun _ => ?_, hK _ ?_⟩; (fail); clear hK K)))
  refine flow_keep [true] (ResP r.fin r.steps V.heap.size M 3 r.mem) (by kernel_rfl) (ResP.stable_ rfl) ?_ ?_
  · intro u
    try simp only [List.nil_append, List.cons_append, useH_f, useH_t, useH_nil]
    rintro _ ⟨A', c', rfl, hs⟩
    go_simp
    exact ⟨⟨A', c', rfl, hs⟩, onW_same ⟨_, rfl⟩⟩
  refine flow_done [true, true] (by kernel_rfl) ?_
  intro u
  simp only [List.nil_append, List.cons_append, endH_f, endH_t, endH_nil]
  rintro v1 _ _ ⟨Ab, cb, rfl, hob⟩
  obtain ⟨Y, hY⟩ : ∃ Y, Y = V.ext u := ⟨_, rfl⟩
  have hRV : w.heap.size < V.heap.size := by have := HVs.out; omega
  have HRY := hide (show RunAt Y base X K q r by rw [hY]; exact HRV.out.ext u)
  have HFY := hide (show Below w.heap.size w Y by rw [hY]; exact (by repeat (first | exact Below.refl _ _ | assumption | exact Hd.out (by assumption) | refine Below.alloc ?_ (by first | omega | (simp [size_ext]; try omega)) _ | refine Below.ext ?_ (by first | omega | (simp [size_ext]; try omega)) _ | refine Below.drew ?_ | refine Below.setCell ?_ (by first | omega | (simp [size_ext]; try omega)) _)))
  have HRbY := hide (show Y.heap[w.heap.size]? = some (.cells #[.int .i64 0, .int .i64 0, .slice none 0 0, .slice none 0 0, .int .i64 0] 37 (0, 0)) by rw [hY, ext_block _ _ _ hRV]; exact HRb.out)
  have HVY := hide (show V.heap.size ≤ Y.heap.size by rw [hY]; simp [size_ext])
  rw [← hY] at hob ⊢
  have HOB := hide hob
  clear hY hob k3 k4 k12 k14 k15 hlt
  have k4 := HRY.out.k4; have k14 := HRY.out.k14; have hlt := HRY.out.lt
  obtain ⟨Ac0, cc0, hvc⟩ := HRY.out.calls.form
  obtain ⟨N, hN⟩ : ∃ N, N = r.calls.length := ⟨_, rfl⟩
  rw [hvc, ← hN] at k14
  have HN := hide hN; have HVC := hide hvc
  have e0 : Y.cell? ⟨w.heap.size, 0, none⟩ = some (.int .i64 0) := cell_of_row _ _ _ _ _ (0, 0) HRbY.out
  have e1 : Y.cell? ⟨w.heap.size, 1, none⟩ = some (.int .i64 0) := cell_of_row _ _ _ _ _ (0, 0) HRbY.out
  have e2 : Y.cell? ⟨w.heap.size, 2, none⟩ = some (.slice none 0 0) := cell_of_row _ _ _ _ _ (0, 0) HRbY.out
  have e3 : Y.cell? ⟨w.heap.size, 3, none⟩ = some (.slice none 0 0) := cell_of_row _ _ _ _ _ (0, 0) HRbY.out
  have e4 : Y.cell? ⟨w.heap.size, 4, none⟩ = some (.int .i64 0) := cell_of_row _ _ _ _ _ (0, 0) HRbY.out
  have ef : ∀ j, Y.frozen? ⟨w.heap.size, j, none⟩ = false := fun j => by simp [World.frozen?, HRbY.out]
  have hXR : X ≠ w.heap.size := by have := HR.out.lt; omega
  have hRX : w.heap.size ≠ X := Ne.symm hXR
  have hRY : w.heap.size < Y.heap.size := by have := HVY.out; omega
  clear hN hvc
  go_simp
  go_wp2_with fail
  obtain ⟨Z, hZ⟩ : ∃ Z, Z = (((((Y.setCell ⟨w.heap.size, 0, none⟩ (.int .i64 r.fin)).setCell ⟨w.heap.size, 1, none⟩ (.int .i64 0)).setCell ⟨w.heap.size, 2, none⟩ (.slice none 0 0)).setCell ⟨w.heap.size, 3, none⟩ (.slice Ab M cb)).setCell ⟨w.heap.size, 4, none⟩ (.int .i64 r.steps)).setCell ⟨w.heap.size, 1, none⟩ (.int .i64 r.value) := ⟨_, rfl⟩
  have HZR := hide (show Z.heap[w.heap.size]? = some (.cells #[.int .i64 r.fin, .int .i64 r.value, .slice none 0 0, .slice Ab M cb, .int .i64 r.steps] 37 (0, 0)) by
    rw [hZ]; exact row_setCell (row_setCell (row_setCell (row_setCell (row_setCell (row_setCell HRbY.out 0 _) 1 _) 2 _) 3 _) 4 _) 1 _)
  have hw0 : w.heap.size ≤ w.heap.size := Nat.le_refl _
  have HFZ := hide (show Below w.heap.size w Z by rw [hZ]; exact (((((HFY.out.setCell hw0 _).setCell hw0 _).setCell hw0 _).setCell hw0 _).setCell hw0 _).setCell hw0 _)
  have hob1 := HOB.out.below_
  have hne : ∀ g, (Value.slice Ab M cb).ownBlock = some g → g ≠ w.heap.size := fun g hg => by have := (hob1 g hg).1; have := HVs.out; omega
  have hneq : ∀ (j : Nat), (Value.slice Ab M cb).ownBlock ≠ some ((⟨w.heap.size, j, none⟩ : Addr).block) := fun j e => hne _ e rfl
  have HOZ := hide (show OwnL Z V.heap.size 3 (fun _ => False) (.slice Ab M cb) r.mem by
    rw [hZ]; exact (((((HOB.out.setCell (fun h => h) (hneq 0) _).setCell (fun h => h) (hneq 1) _).setCell (fun h => h) (hneq 2) _).setCell (fun h => h) (hneq 3) _).setCell (fun h => h) (hneq 4) _).setCell (fun h => h) (hneq 1) _)
  have hZs : Z.heap.size = Y.heap.size := by rw [hZ]; simp
  have HZs := hide hZs
  rw [← hZ]
  clear hZ hZs e0 e1 e2 e3 e4 ef hneq hne hob1 hw0 k4 k14
  obtain ⟨B1, hB1⟩ : ∃ B1, B1 = Z.heap.size := ⟨_, rfl⟩
  have HB1 := hide hB1; clear hB1
  obtain ⟨j0, hj, hjz, hjz1, hjz2⟩ := info_parts info_Call
  have HJ0 := hide hj; have HJZ := hide hjz; have HJZ1 := hide hjz1; have HJZ2 := hide hjz2
  clear hj hjz hjz1 hjz2
  have hRB : w.heap.size < B1 := by have := HB1.out; have := HZs.out; omega
  have hVB : V.heap.size ≤ B1 := by have := HB1.out; have := HZs.out; have := HVY.out; omega
  have hN2 : N ≤ 1048576 := by rw [HN.out]; exact hcl
  go_loopw [41] (fun j wr => ∃ (k : Nat) (vcs : Value) (Sc : Nat → Prop), k ≤ N ∧ j = .int .i64 k ∧ wr.heap[w.heap.size]? = some (.cells #[.int .i64 r.fin, .int .i64 r.value, vcs, .slice Ab M cb, .int .i64 r.steps] 37 (0, 0)) ∧
    OwnL wr B1 93 Sc vcs (r.calls.take k) ∧ (∀ b, Sc b → B1 ≤ b ∧ b < wr.heap.size) ∧ OwnL wr V.heap.size 3 (fun _ => False) (.slice Ab M cb) r.mem ∧ (∀ g, (Value.slice Ab M cb).ownBlock = some g → g < B1) ∧ Below w.heap.size w wr ∧ B1 ≤ wr.heap.size) (fun j _ => N - (intOf j).toNat)
  case atStart => exact ⟨0, _, fun _ => False, Nat.zero_le _, rfl, HZR.out, OwnL.nil_ _ _ _ _, (fun _ h => h.elim), HOZ.out, fun g hg => by rw [HB1.out]; exact (HOZ.out.below_ g hg).2, HFZ.out, by rw [HB1.out]; exact Nat.le_refl _⟩
  case round =>
    obtain ⟨k, vcs, Sc, hk, rfl, hR, hown, hSc, hmem, hmb, hbel, hsz⟩ := hrel
    have HRk := hide hR; have HO := hide hown; have HSc := hide hSc; have HMk := hide hmem; have HMb := hide hmb; have HBk := hide hbel
    clear hR hown hSc hmem hmb hbel
    have hRk : RunAt wr base X K q r := HR.out.keep HBk.out
    have HRr := hide hRk
    by_cases hlt' : k < N
    · have hcalls := hRk.calls
      rw [HVC.out, ← HN.out] at hcalls
      obtain ⟨cb', coff, C, Aa, na, ca, hAc, hcb, hC, hcc, hcargs, d0, d1⟩ := at_Call (hcalls.sl (S' := fun _ => True) (fun _ _ _ => trivial)) hlt'
      have HC := hide (take_at hC); have HCI := hide hcc
      have HCA := hide hcargs
      have hna : na ≤ 1048576 := by rw [← hcargs.len]; exact HAL.out C (List.mem_of_getElem? hC)
      have HNA := hide hcargs.len
      rw [hAc]
      clear hcalls hC hcc hcargs hRk
      go_wp2_with fail
      obtain ⟨V7, hV7⟩ : ∃ V7, V7 = wr.alloc (.cells #[.int .i64 C.callee, .slice Aa na ca] 93) := ⟨_, rfl⟩
      have F7s := hide (show V7.heap.size = wr.heap.size + 1 by subst hV7; simp)
      have hw7 : wr.heap.size < V7.heap.size := by have := F7s.out; omega
      have hR7 : w.heap.size < V7.heap.size := by omega
      have HR7 := hide (show V7.heap[w.heap.size]? = some (.cells #[.int .i64 r.fin, .int .i64 r.value, vcs, .slice Ab M cb, .int .i64 r.steps] 37 (0, 0)) by subst hV7; rw [Below.heap_alloc _ _ _ (by omega)]; exact HRk.out)
      have c2 : V7.cell? ⟨w.heap.size, 2, none⟩ = some vcs := cell_of_row V7 _ _ _ _ (0, 0) HR7.out
      have l0 : V7.cell? ⟨wr.heap.size, 0, none⟩ = some (.int .i64 C.callee) := by subst hV7; go_simp
      have l1 : V7.cell? ⟨wr.heap.size, 1, none⟩ = some (.slice Aa na ca) := by subst hV7; go_simp
      have HO7 := hide (show OwnL V7 B1 93 Sc vcs (r.calls.take k) by subst hV7; exact HO.out.alloc _)
      have HM7 := hide (show OwnL V7 V.heap.size 3 (fun _ => False) (.slice Ab M cb) r.mem by subst hV7; exact HMk.out.alloc _)
      have HCA7 := hide (show Sl V7 (fun _ => True) Aa na ca C.args by subst hV7; exact HCA.out.alloc _)
      have HB7 := hide (show Below w.heap.size w V7 by subst hV7; exact HBk.out.alloc (by omega) _)
      rw [← hV7]
      clear hV7 d0 d1
      refine wp_region_row_last (vcs.ownBlock) [9] [6, 7, 8, 9] 11 (by kernel_rfl) rfl rfl rfl (by kernel_rfl) (by kernel_rfl) ?_
      simp only [List.take_succ_cons, List.take_zero]
      repeat (refine flowG_known (by kernel_rfl) (fun K hK => ?_); go_simp; (first | (refine hK _ ?_; clear hK K) | (apply Exists.intro; refine ⟨fun w' => ?_, hK _ ?_⟩; (fail); clear hK K)))
      repeat (refine flowG_known0 (by kernel_rfl) (by kernel_rfl) (fun K hK => ?_); go_simp; (first | (refine hK _ ?_; clear hK K) | (apply Exists.intro; refine ⟨fun _ => ?_, hK _ ?_⟩; (fail); clear hK K)))
      refine flowG_keep [] (OwnP V7.heap.size na 3 (fun _ => False) C.args) (by kernel_rfl) (OwnP.stable_ rfl) (by kernel_rfl) ?_ ?_
      · intro u hu
        try simp only [List.nil_append, List.cons_append, useH_f, useH_t, useH_nil]
        go_simp
        refine (clone_ints _ _ Aa na ca C.args (HCA7.out.ext u) hna).mono ?_
        rintro e _ ⟨A', c', rfl, hs, x', rfl⟩
        rw [HNA.out] at hs ⊢
        exact ⟨_, rfl, ⟨A', c', rfl, hs.ints.base_le (by rw [size_ext]; omega)⟩, onW_row_ext hu x'⟩
      refine flowG_keep [true] (CallP C.callee V7.heap.size na 3 C.args) (by kernel_rfl) (CallP.stable_ rfl) (by kernel_rfl) ?_ ?_
      · intro u hu
        try simp only [List.nil_append, List.cons_append, useH_f, useH_t, useH_nil]
        rintro _ ⟨A', c', rfl, hs⟩
        go_simp
        exact ⟨⟨A', c', rfl, hs⟩, hu, fun _ => ext_refl _⟩
      refine flowG_keep [false, true] (CallLP C.callee V7.heap.size na 3 93 C.args) (by kernel_rfl) (CallLP.stable_ rfl) (by kernel_rfl) ?_ ?_
      · intro u hu
        try simp only [List.nil_append, List.cons_append, useH_f, useH_t, useH_nil]
        rintro _ ⟨A', c', rfl, hs⟩
        go_simp
        exact ⟨⟨A', c', LitP.mk_ (us := [.int .i64 C.callee, .slice A' na c']) (by rw [size_ext]), hs.alloc _⟩, onW_row_alloc hu⟩
      refine flowG_keep [false, false, true] (PushE B1 93 Sc vcs.ownBlock V7.heap.size (r.calls.take k ++ [C])) (by kernel_rfl) (PushE.stable_ rfl) (by kernel_rfl) ?_ ?_
      · intro u hu
        try simp only [List.nil_append, List.cons_append, useH_f, useH_t, useH_nil]
        rintro v1 ⟨A', c', hlit, hs⟩
        have hlen : (r.calls.take k).length ≤ 1048576 := by rw [List.length_take]; have := HN.out; omega
        have hSlt : ∀ b, Sc b → b < V7.heap.size := fun b hb => by have := (HSc.out b hb).2; omega
        have hvo : ∀ g, vcs.ownBlock = some g → ¬ Sc g := by obtain ⟨_, _, _, h4⟩ := HO7.out; exact h4
        refine HeldAt.mono_ (HeldAt.push_own (α := Call) rfl (.tmp 46) (.tmp 53) 35 rfl B1 93 j0 _ 32 Try.underlying35 HJ0.out HJZ.out HJZ1.out HJZ2.out rfl (by decide) Sc (fun b => Sc b ∨ (Value.slice A' na c').ownBlock = some b) vcs _ C [.int .i64 C.callee, .slice A' na c'] 93 rfl (HO7.out.ext u) (by go_simp) hlit
          (Call.mk_ HCI.out (hs.slo fun b _ h => by rcases h with h | h; exact h.elim; exact .inr h)) (fun _ h => .inl h) (fun g hg h => by
            rcases h with h | h
            · exact hvo g hg h
            · have := (hs.below_ g h).1; have := (HO7.out.below_ g hg).2; omega) (fun b h => by
            rcases h with h | h
            · have := hSlt b h; rw [size_ext]; omega
            · exact (hs.below_ b h).2) (by omega) (by omega) (by rw [size_ext]; omega) hu) ?_
        rintro v w2 ⟨h1, h2, h3⟩
        refine ⟨_, h1, h2, fun b hb => ⟨?_, h3 b hb⟩⟩
        rcases hb with hb | hb
        · exact .inl hb
        · exact .inr (hs.below_ b hb).1
      repeat (refine flowG_known (by kernel_rfl) (fun K hK => ?_); go_simp; (first | (refine hK _ ?_; clear hK K) | (apply Exists.intro; refine ⟨fun w' => ?_, hK _ ?_⟩; (fail); clear hK K)))
      refine flowG_done [false, false, false, true] (by kernel_rfl) ?_
      intro w6 h6
      simp only [List.nil_append, List.cons_append, endH_f, endH_t, endH_nil]
      rintro v6 v7 v8 v9 ⟨Sc', hown9, hv9, hSc9⟩
      obtain ⟨A9, c9, rfl⟩ := hown9.form
      generalize (r.calls.take k ++ [C]).length = n9 at hown9 hv9 ⊢
      have HW9 := hide hown9; have HV9 := hide hv9; have H6 := hide h6; have HS9 := hide hSc9
      clear hown9 hv9 h6 hSc9
      have HNE := hide (show ∀ g, vcs.ownBlock = some g → B1 ≤ g from fun g hg => (HO7.out.below_ g hg).1)
      have HR6 := hide (show w6.heap[w.heap.size]? = some (.cells #[.int .i64 r.fin, .int .i64 r.value, vcs, .slice Ab M cb, .int .i64 r.steps] 37 (0, 0)) from (H6.out.block _ hR7 (fun e => by have := HNE.out _ e.symm; omega)).trans HR7.out)
      have c6 : w6.cell? ⟨w.heap.size, 2, none⟩ = some vcs := cell_of_row w6 _ _ _ _ (0, 0) HR6.out
      have f6 : w6.frozen? ⟨w.heap.size, 2, none⟩ = false := by simp [World.frozen?, HR6.out]
      go_simp
      go_wp2_with fail
      go_roundw
      case rel =>
        have hs6 := H6.out.size
        have hne9 : Value.ownBlock (.slice A9 n9 c9) ≠ some (w.heap.size) := fun e => by
          rcases HV9.out with h | ⟨g, h, hg⟩
          · rw [h] at e; have := HNE.out _ e; omega
          · rw [h] at e; injection e with e; omega
        have hneM : Value.ownBlock (.slice Ab M cb) ≠ some (w.heap.size) := fun e => by have := (HM7.out.below_ _ e).1; have := HVs.out; omega
        refine ⟨k + 1, _, Sc', by omega, by go_num, row_setCell HR6.out 2 _, ?_, ?_, ?_, HMb.out, ?_, ?_⟩
        · rw [HC.out]
          exact HW9.out.setCell (p := ⟨w.heap.size, 2, none⟩) (fun h => by have h0 : Sc' w.heap.size := h; have := (HS9.out _ h0).1; rcases this with h1 | h1; have := (HSc.out _ h1).1; omega; omega) hne9 _
        · intro b hb
          have h1 := HS9.out b hb
          refine ⟨?_, by simp; exact h1.2⟩
          rcases h1.1 with h | h
          · exact (HSc.out b h).1
          · omega
        · refine OwnL.setCell (p := ⟨w.heap.size, 2, none⟩) ?_ (fun h => h) hneM _
          exact HM7.out.keep hs6 (fun b hb _ => hb.elim) (fun g hg => H6.out.block g (HM7.out.below_ g hg).2 (fun e => by have := HNE.out g e.symm; have := HMb.out g hg; omega))
        · exact (HB7.out.trans ((Below.refl _ _).grown H6.out (by omega) fun g hg => by have := HNE.out g hg; omega)).setCell (Nat.le_refl _) _
        · simp; omega
      case measure => simp [intOf]; omega
    · have e : r.calls.take k = r.calls := List.take_of_length_le (by have := HN.out; omega)
      have HOe := hide (show OwnL wr B1 93 Sc vcs r.calls by have := HO.out; rwa [e] at this)
      clear e hRk HO
      obtain ⟨Ac, cc, rfl⟩ := HOe.out.form
      generalize hgn : r.calls.length = N' at HOe HRk ⊢
      have HGN := hide hgn
      clear hgn
      have c0 : wr.cell? ⟨w.heap.size, 0, none⟩ = some (.int .i64 r.fin) := cell_of_row wr _ _ _ _ (0, 0) HRk.out
      have c1 : wr.cell? ⟨w.heap.size, 1, none⟩ = some (.int .i64 r.value) := cell_of_row wr _ _ _ _ (0, 0) HRk.out
      have c2 : wr.cell? ⟨w.heap.size, 2, none⟩ = some (.slice Ac N' cc) := cell_of_row wr _ _ _ _ (0, 0) HRk.out
      have c3 : wr.cell? ⟨w.heap.size, 3, none⟩ = some (.slice Ab M cb) := cell_of_row wr _ _ _ _ (0, 0) HRk.out
      have c4 : wr.cell? ⟨w.heap.size, 4, none⟩ = some (.int .i64 r.steps) := cell_of_row wr _ _ _ _ (0, 0) HRk.out
      have ef : ∀ j, wr.frozen? ⟨w.heap.size, j, none⟩ = false := fun j => by simp [World.frozen?, HRk.out]
      go_wp2_with fail
      have hbase : w.heap.size ≤ B1 := by omega
      have hfin : ∀ (T : World), T.heap[w.heap.size]? = some (.cells #[.int .i64 r.fin, .int .i64 r.value, .slice Ac N' cc, .slice Ab M cb, .int .i64 r.steps] 37 (0, 0)) → OwnL T B1 93 Sc (.slice Ac N' cc) r.calls → OwnL T V.heap.size 3 (fun _ => False) (.slice Ab M cb) r.mem → Below w.heap.size w T → RetRes r w (.returned (.agg #[.int .i64 r.fin, .int .i64 r.value, .slice Ac N' cc, .slice Ab M cb, .int .i64 r.steps])) T := by
        intro T h1 h2 h3 h4
        refine ⟨Ac, cc, Ab, cb, Sc, by rw [HGN.out, HM.out], ?_, ?_, fun b hb => by have := (HSc.out b hb).1; omega, Below.to_ext h4⟩
        · rw [HGN.out]; exact h2.base_le hbase
        · rw [← HM.out]; exact h3.base_le (by omega)
      have HFIN := hide hfin
      clear hfin
      refine bodyPost_ret (v := .agg #[.int .i64 r.fin, .int .i64 r.value, .slice Ac N' cc, .slice Ab M cb, .int .i64 r.steps]) (by simp [results, Try.results23, go_sem, c0, c1, c2, c3, c4, ef]) rfl ?_
      have hn1 : ∀ j : Nat, Value.ownBlock (.slice Ac N' cc) ≠ some ((⟨w.heap.size, j, none⟩ : Addr).block) := fun j e => by have := (HOe.out.below_ _ e).1; have h0 : B1 ≤ w.heap.size := this; omega
      have hn2 : ∀ j : Nat, Value.ownBlock (.slice Ab M cb) ≠ some ((⟨w.heap.size, j, none⟩ : Addr).block) := fun j e => by have := (HMk.out.below_ _ e).1; have h0 : V.heap.size ≤ w.heap.size := this; have := HVs.out; omega
      have hs1 : ∀ j : Nat, ¬ Sc ((⟨w.heap.size, j, none⟩ : Addr).block) := fun j e => by have h0 : Sc w.heap.size := e; have := (HSc.out _ h0).1; omega
      have hw0 : w.heap.size ≤ w.heap.size := Nat.le_refl _
      exact HFIN.out _ (row_setCell (row_setCell (row_setCell (row_setCell (row_setCell HRk.out 0 _) 1 _) 2 _) 3 _) 4 _)
        (((((HOe.out.setCell (hs1 0) (hn1 0) _).setCell (hs1 1) (hn1 1) _).setCell (hs1 2) (hn1 2) _).setCell (hs1 3) (hn1 3) _).setCell (hs1 4) (hn1 4) _)
        (((((HMk.out.setCell (fun h => h) (hn2 0) _).setCell (fun h => h) (hn2 1) _).setCell (fun h => h) (hn2 2) _).setCell (fun h => h) (hn2 3) _).setCell (fun h => h) (hn2 4) _)
        (((((HBk.out.setCell hw0 _).setCell hw0 _).setCell hw0 _).setCell hw0 _).setCell hw0 _)
end Go.Proofs.Ytkjipgelbjaggaa
