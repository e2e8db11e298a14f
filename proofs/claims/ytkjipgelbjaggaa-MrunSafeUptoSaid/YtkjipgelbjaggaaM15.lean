/- Walks: are all places there? Walks: run.Calc. Two arrays of two numbers, held against each other. Walks: lists of numbers: the same, copied. Walks: sets of registers. -/
import Derived.Test.YtkjipgelbjaggaaM14
import Derived.Test.YtkjipgelbjaggaaM00
import Derived.Test.YtkjipgelbjaggaaM07
import Derived.Test.YtkjipgelbjaggaaM02
import Derived.Test.YtkjipgelbjaggaaM09
import Derived.Deep.WholeRow
set_option linter.unusedSimpArgs false
set_option linter.unusedVariables false
namespace Go.Proofs.Ytkjipgelbjaggaa
open Go.RowKit Go.Maps
theorem indexLocs_any (w : World) (S : Nat → Prop) (A : Option Addr) (n c : Nat) (xs : List Loc) (f : Loc → Bool) (fn : FuncId) (caps : Array Value) (h : Sl w S A n c xs)
    (hfn : ∀ (vs : Array Value) (w : World), (callFunc fn vs).run Try.prog w = .ok (.enter fn vs) w) (hf : ∀ (x : Loc) (u : Ext), InI x.n → Calls Try.prog fn (#[.agg #[.bool x.slot, .int .i64 x.n]] ++ caps) (w.ext u) (RetX (.bool (f x)) (w.ext u))) :
    Calls Try.prog 99 #[.slice A n c, .func (.func fn) #[] caps] w (RetX (.int .i64 (idxF f 0 xs)) w) := by
  have hn := h.nle
  have HL := hide h.len
  have HS := hide h; have HF := hide hf
  clear h hf
  go_enter Try.func99, Try.ntmps99
  go_wp2
  go_loopw [8] (fun i wr => ∃ k : Nat, k ≤ n ∧ i = .int .i64 k ∧ idxF f 0 xs = idxF f k (xs.drop k) ∧ ∃ u, wr = w.ext u) (fun i _ => n - (intOf i).toNat)
  case atStart => exact ⟨0, Nat.zero_le _, rfl, rfl, ext_refl _⟩
  case round =>
    obtain ⟨k, hk, rfl, hr, u, rfl⟩ := hrel
    have HR := hide hr; clear hr
    by_cases hlt : k < n
    · obtain ⟨b, off, x, rfl, hb, hx, hxi, c0, c1⟩ := at_Loc HS.out hlt
      have HX := hide (drop_at hx); clear hx
      by_cases hv : f x = true
      · have HV := hide hv; clear hv
        go_wp2_with (refine (HF.out x _ hxi).mono ?_; rintro e _ ⟨rfl, ux, rfl⟩; rw [HV.out])
        go_ret
        exact RetX.i (by rw [HR.out, HX.out]; simp [idxF, HV.out]) (by repeat (first | exact Below.refl _ _ | assumption | refine Below.alloc ?_ (by simp [size_ext]; try omega) _ | refine Below.ext ?_ (by simp [size_ext]; try omega) _ | refine Below.drew ?_ | refine Below.setCell ?_ (by simp [size_ext]; try omega) _))
      · have HV := hide (show f x = false by simpa using hv); clear hv
        go_wp2_with (refine (HF.out x _ hxi).mono ?_; rintro e _ ⟨rfl, ux, rfl⟩; rw [HV.out])
        go_roundw
        case rel => exact ⟨k + 1, by omega, by go_num, by rw [HR.out, HX.out]; simp [idxF, HV.out], Below.to_ext (by repeat (first | exact Below.refl _ _ | assumption | refine Below.alloc ?_ (by simp [size_ext]; try omega) _ | refine Below.ext ?_ (by simp [size_ext]; try omega) _ | refine Below.drew ?_ | refine Below.setCell ?_ (by simp [size_ext]; try omega) _))⟩
        case measure => simp [intOf]; omega
    · go_wp2
      go_ret
      exact RetX.i (by rw [HR.out, drop_end HL.out hlt]; rfl) (by repeat (first | exact Below.refl _ _ | assumption | refine Below.alloc ?_ (by simp [size_ext]; try omega) _ | refine Below.ext ?_ (by simp [size_ext]; try omega) _ | refine Below.drew ?_ | refine Below.setCell ?_ (by simp [size_ext]; try omega) _))
theorem containsLocs_any (w : World) (S : Nat → Prop) (A : Option Addr) (n c : Nat) (xs : List Loc) (f : Loc → Bool) (fn : FuncId) (caps : Array Value) (h : Sl w S A n c xs)
    (hfn : ∀ (vs : Array Value) (w : World), (callFunc fn vs).run Try.prog w = .ok (.enter fn vs) w) (hf : ∀ (x : Loc) (u : Ext), InI x.n → Calls Try.prog fn (#[.agg #[.bool x.slot, .int .i64 x.n]] ++ caps) (w.ext u) (RetX (.bool (f x)) (w.ext u))) :
    Calls Try.prog 88 #[.slice A n c, .func (.func fn) #[] caps] w (RetX (.bool (anyF f xs)) w) := by
  have HS := hide h; have HF := hide hf
  clear h hf
  go_enter Try.func88, Try.ntmps88
  go_wp2_with (go_at_call 99; refine (indexLocs_any _ S _ _ _ xs f fn caps HS.out hfn HF.out).mono ?_; rintro e _ ⟨rfl, ux, rfl⟩)
  go_ret
  exact RetX.b (idxF_ge f xs 0) (by repeat (first | exact Below.refl _ _ | assumption | refine Below.alloc ?_ (by simp [size_ext]; try omega) _ | refine Below.ext ?_ (by simp [size_ext]; try omega) _ | refine Below.drew ?_ | refine Below.setCell ?_ (by simp [size_ext]; try omega) _))
theorem whole1_any (w : World) (B bc K : Nat) (g : Loc → Option Int) (hB : w.cell? ⟨B, 0, none⟩ = some (.map (some bc))) (hBl : B < w.heap.size) (hm : CMap w bc K g) (l : Loc) (hl : InI l.n) :
    Calls Try.prog 89 #[.agg #[.bool l.slot, .int .i64 l.n], .pointer (some ⟨B, 0, none⟩)] w (RetX (.bool (g l).isNone) w) := by
  have HC := hide hm; clear hm
  go_enter Try.func89, Try.ntmps89
  have hq := MapP.getOk (K := locK) (E := cellE) (HC.out.alloc (.cells #[.bool l.slot, .int .i64 l.n] 70)) Try.underlying97 (x := l) hl
  change (Instr.lookup 97 (.map (some bc)) (.agg #[.bool l.slot, .int .i64 l.n]) true).run Try.prog _ = .ok (.tuple #[.int .i64 ((g l).getD 0), .bool (g l).isSome]) _ at hq
  go_wp2_with fail
  go_ret
  exact RetX.b (by simp) (by repeat (first | exact Below.refl _ _ | assumption | refine Below.alloc ?_ (by simp [size_ext]; try omega) _ | refine Below.ext ?_ (by simp [size_ext]; try omega) _ | refine Below.drew ?_ | refine Below.setCell ?_ (by simp [size_ext]; try omega) _))
def wholeC (g : Loc → Option Int) (l : List Loc) : Bool := !anyF (fun x => (g x).isNone) l
theorem whole_any (w : World) (bc K : Nat) (g : Loc → Option Int) (hm : CMap w bc K g) (S : Nat → Prop) (A : Option Addr) (n c : Nat) (xs : List Loc) (h : Sl w S A n c xs) :
    Calls Try.prog 67 #[.map (some bc), .slice A n c] w (RetX (.bool (wholeC g xs)) w) := by
  have HC := hide hm; have HS := hide h
  clear hm h
  go_enter Try.func67, Try.ntmps67
  go_wp2_with fail
  refine (containsLocs_any _ S A n c xs (fun x => (g x).isNone) 89 #[.pointer (some ⟨w.heap.size, 0, none⟩)] (by exact HS.out.alloc _) (fun _ _ => by kernel_rfl) (fun x u hx => ?_)).mono ?_
  · exact whole1_any _ w.heap.size bc K g (by rw [cell?_ext _ _ _ (by simp)]; go_simp) (by simp [size_ext]; omega) ((HC.out.alloc _).ext u) x hx
  rintro e _ ⟨rfl, ux, rfl⟩
  go_wp2_with fail
  go_ret
  exact RetX.b rfl (by repeat (first | exact Below.refl _ _ | assumption | refine Below.alloc ?_ (by simp [size_ext]; try omega) _ | refine Below.ext ?_ (by simp [size_ext]; try omega) _ | refine Below.drew ?_ | refine Below.setCell ?_ (by simp [size_ext]; try omega) _))
end Go.Proofs.Ytkjipgelbjaggaa
set_option linter.unusedSimpArgs false
set_option linter.unusedVariables false
namespace Go.Proofs.Ytkjipgelbjaggaa
open Go.RowKit Go.Maps
def truthC (b : Bool) : Int := if b then 1 else 0
theorem truth_any (b : Bool) (w : World) : Calls Try.prog 101 #[.bool b] w (Ret (.int .i64 (truthC b)) w) := by
  go_enter Try.func101, Try.ntmps101
  cases b
  · go_wp2
    go_ret
    exact ⟨rfl, rfl⟩
  · go_wp2
    go_ret
    exact ⟨rfl, rfl⟩
/-- what two numbers come to; whether they come to something -/
def calcC (o a b : Int) : Int × Bool :=
  if o = 2 then (wrap64 (a + b), true) else if o = 3 then (wrap64 (a - b), true) else if o = 4 then (wrap64 (a * b), true) else if o = 6 then (bits .and .i64 a b, true) else if o = 7 then (bits .or .i64 a b, true)
  else if o = 8 then (bits .xor .i64 a b, true) else if o = 9 then (truthC (decide (a < b)), true) else if o = 10 then (truthC (a == b), true) else if o = 5 ∧ b ≠ 0 then (wrap64 (a.tdiv b), true) else (0, false)
def RetC (p : Int × Bool) (w : World) (e : Ending) (w' : World) : Prop := e = .returned (.tuple #[.int .i64 p.1, .bool p.2]) ∧ w = w'
set_option maxHeartbeats 1000000 in
theorem calc_1 (o a b : Int) (w : World) (ho : o = 2 ∨ o = 3 ∨ o = 4 ∨ o = 6 ∨ o = 7 ∨ o = 8 ∨ o = 9 ∨ o = 10) : Calls Try.prog 92 #[.int .i64 o, .int .i64 a, .int .i64 b] w (RetC (calcC o a b) w) := by
  rcases ho with rfl | rfl | rfl | rfl | rfl | rfl | rfl | rfl
  all_goals
    go_enter Try.func92, Try.ntmps92
    go_wp2_with (go_at_call 101; refine (truth_any _ _).mono ?_; rintro e w' ⟨rfl, rfl⟩)
    go_ret2
    exact ⟨rfl, rfl⟩
theorem calc_2 (o a b : Int) (w : World) (ho : ¬ (o = 2 ∨ o = 3 ∨ o = 4 ∨ o = 6 ∨ o = 7 ∨ o = 8 ∨ o = 9 ∨ o = 10)) (h5 : o ≠ 5) : Calls Try.prog 92 #[.int .i64 o, .int .i64 a, .int .i64 b] w (RetC (0, false) w) := by
  have g2 : (o == 2) = false := by rw [beq_eq_false_iff_ne]; omega
  have g3 : (o == 3) = false := by rw [beq_eq_false_iff_ne]; omega
  have g4 : (o == 4) = false := by rw [beq_eq_false_iff_ne]; omega
  have g6 : (o == 6) = false := by rw [beq_eq_false_iff_ne]; omega
  have g7 : (o == 7) = false := by rw [beq_eq_false_iff_ne]; omega
  have g8 : (o == 8) = false := by rw [beq_eq_false_iff_ne]; omega
  have g9 : (o == 9) = false := by rw [beq_eq_false_iff_ne]; omega
  have g10 : (o == 10) = false := by rw [beq_eq_false_iff_ne]; omega
  have g5 : (o != 5) = true := by rw [bne_iff_ne]; exact h5
  clear ho h5
  go_enter Try.func92, Try.ntmps92
  go_wp2_with fail
  go_ret2
  exact ⟨rfl, rfl⟩
theorem calc_3 (a : Int) (w : World) : Calls Try.prog 92 #[.int .i64 5, .int .i64 a, .int .i64 0] w (RetC (0, false) w) := by
  go_enter Try.func92, Try.ntmps92
  go_wp2_with fail
  go_ret2
  exact ⟨rfl, rfl⟩
theorem calc_4 (a b : Int) (w : World) (hb : b ≠ 0) : Calls Try.prog 92 #[.int .i64 5, .int .i64 a, .int .i64 b] w (RetC (wrap64 (a.tdiv b), true) w) := by
  have g0 : (b == 0) = false := by rw [beq_eq_false_iff_ne]; exact hb
  go_enter Try.func92, Try.ntmps92
  go_wp2_with fail

  go_ret2
  exact ⟨rfl, rfl⟩
theorem calc_any (o a b : Int) (w : World) : Calls Try.prog 92 #[.int .i64 o, .int .i64 a, .int .i64 b] w (RetC (calcC o a b) w) := by
  by_cases h : o = 2 ∨ o = 3 ∨ o = 4 ∨ o = 6 ∨ o = 7 ∨ o = 8 ∨ o = 9 ∨ o = 10
  · exact calc_1 o a b w h
  · by_cases h5 : o = 5
    · subst h5
      by_cases h0 : b = 0
      · subst h0; exact calc_3 a w
      · have : calcC 5 a b = (wrap64 (a.tdiv b), true) := by simp [calcC, h0]
        rw [this]; exact calc_4 a b w h0
    · have : calcC o a b = (0, false) := by
        unfold calcC
        rw [if_neg (by omega), if_neg (by omega), if_neg (by omega), if_neg (by omega), if_neg (by omega), if_neg (by omega), if_neg (by omega), if_neg (by omega), if_neg (by omega)]
      rw [this]; exact calc_2 o a b w h h5
end Go.Proofs.Ytkjipgelbjaggaa
set_option linter.unusedSimpArgs false
set_option linter.unusedVariables false
namespace Go.Proofs.Ytkjipgelbjaggaa
section
variable {P : Program} (w : World)
theorem run_equalIn_arr2 (d : Nat) (t : TypeId) (k : IntKind) (a0 a1 b0 b1 : Int) (ht : P.underlying t = some (.array 2 (P.elem t))) (he : P.underlying (P.elem t) = some (.int (P.intKind (P.elem t)))) (hsz : ∀ w, (sizeOf (P.elem t)).run P w = .ok 1 w) (hd : 0 < d) :
    (Op.equalIn (d + 1) t (.agg #[.int k a0, .int k a1]) (.agg #[.int k b0, .int k b1])).run P w = .ok (a0 == b0 && a1 == b1) w := by
  obtain ⟨d, rfl⟩ : ∃ e, d = e + 1 := ⟨d - 1, by omega⟩
  rw [Op.equalIn]
  rw [Sem.run_bind, run_underlying ht]
  simp only [Result.andThen_ok]
  have hia : ∀ w, (isAgg (P.elem t)).run P w = .ok false w := fun w => by simp [isAgg, run_underlying he]
  simp [Sem.run_bind, hsz, List.range', part, hia, Op.equalIn, run_underlying he]
  by_cases h0 : a0 = b0 <;> by_cases h1 : a1 = b1 <;> simp [h0, h1]
end
attribute [go_sem] run_equalIn_arr2
end Go.Proofs.Ytkjipgelbjaggaa
set_option linter.unusedSimpArgs false
set_option linter.unusedVariables false
namespace Go.Proofs.Ytkjipgelbjaggaa
open Go.RowKit

theorem mem_at {α : Type} {xs : List α} {k : Nat} {x : α} (h : xs[k]? = some x) : x ∈ xs := List.mem_of_getElem? h
theorem some_eq {α : Type} {a b : α} {x : Option α} (h : x = some a) (h' : x = some b) : a = b := by rw [h] at h'; exact Option.some.inj h'

theorem sameInts_any (w : World) (S S' : Nat → Prop) (A A' : Option Addr) (n c c' : Nat) (xs : List Int) (h : Sl w S A n c xs) (h' : Sl w S' A' n c' xs) :
    Calls Try.prog 14 #[.slice A n c, .slice A' n c'] w (RetX (.bool true) w) := by
  have hn := h.nle
  have HS := hide h; clear h
  have HS' := hide h'; clear h'
  go_enter Try.func14, Try.ntmps14
  go_wp2
  go_loopw [5] (fun i wr => ∃ k : Nat, k ≤ n ∧ i = .int .i64 k ∧ ∃ u, wr = w.ext u) (fun i _ => n - (intOf i).toNat)
  case atStart => exact ⟨0, Nat.zero_le _, rfl, ext_refl _⟩
  case round =>
    obtain ⟨k, hk, rfl, u, rfl⟩ := hrel
    by_cases hlt : k < n
    · obtain ⟨b, off, x, rfl, hb, hx, -, hc⟩ := at_int HS.out hlt
      obtain ⟨b', off', x', rfl, hb', hx', -, hc'⟩ := at_int HS'.out hlt
      obtain rfl := some_eq hx hx'
      clear hx hx'
      go_wp2
      refine wp_region_ext (by kernel_rfl) (by kernel_rfl) ?_
      repeat (any_goals (first | go_big_quiet_step ((fail)) | quiet_step ((fail))))
      refine wpQuiet_nil ?_
      rintro _ ⟨uq, rfl⟩
      go_wp2
      go_roundw
      case rel => exact ⟨k + 1, by omega, by go_num, Below.to_ext (by repeat (first | exact Below.refl _ _ | assumption | refine Below.alloc ?_ (by simp [size_ext]; try omega) _ | refine Below.ext ?_ (by simp [size_ext]; try omega) _ | refine Below.drew ?_ | refine Below.setCell ?_ (by simp [size_ext]; try omega) _))⟩
      case measure => simp [intOf]; omega
    · go_wp2
      go_ret
      exact RetX.b rfl (by repeat (first | exact Below.refl _ _ | assumption | refine Below.alloc ?_ (by simp [size_ext]; try omega) _ | refine Below.ext ?_ (by simp [size_ext]; try omega) _ | refine Below.drew ?_ | refine Below.setCell ?_ (by simp [size_ext]; try omega) _))
end Go.Proofs.Ytkjipgelbjaggaa
set_option linter.unusedSimpArgs false
set_option linter.unusedVariables false
namespace Go.Proofs.Ytkjipgelbjaggaa
open Go.RowKit

theorem info_set : (Try.prog.info? 151).map (fun i => (i.zero, i.size)) = some (some (.agg (Array.replicate 64 (.bool false))), 64) := by kernel_rfl
theorem size_set : (Try.prog.info? 151).map (·.size) = some 64 := (zero_of_info info_set).2
theorem results_cell_tmp {P : Program} {fn : Func} {p t : Tmp} {ty : TypeId} {a : Addr} {v : Value} (h : fn.results = #[.cell p ty, .tmp t]) (tmps : Array Value) (w : World)
    (hp : tmps.getD p undef = .pointer (some a)) (hl : (loadVar ty a).run P w = .ok v w) : (results fn tmps).run P w = .ok (.tuple #[v, tmps.getD t undef]) w := by
  have hp' : tmps[p]?.getD undef = .pointer (some a) := by simpa using hp
  simp [results, h, hp', asAddr, hl]
/-- A whole array, stored into the block that was made last. -/
theorem wpList_store_new {P : Program} {ops : Array Oper} {rest : List Oper} {o : Oper} {a : Act} {Q : Exit → Act → World → Prop} {Wg : World} (hgd : o.guard = none) (ty : TypeId) (x y : Operand) (ho : o.op = .store ty x y)
    (w : World) (g : Nat) (c c' : Array Value) (hWg : Wg = w.alloc (.cells c ty)) (hx : a.eval x = .pointer (some ⟨g, 0, none⟩)) (hg : g = w.heap.size) (hy : a.eval y = .agg c') (hi : (P.info? ty).map (·.size) = some c'.size) (hs : c.size = c'.size) (h1 : c'.all (·.oneCell') = true)
    (h : wpList P ops Q rest (a.put o.dst undef) (w.alloc (.cells c' ty))) : wpList P ops Q (o :: rest) a Wg := by
  subst hg hWg
  have hr := run_storeAt_new (P := P) w ty c c' hi hs h1
  refine wpList_plain hgd fun K hK => ?_
  unfold Oper.wp execOp
  simp only [ho, hx, hy, Sem.run_bind, hr, Result.andThen_ok]
  exact hK _ _ h
/-- It returns a set, and a bool. -/
def RetOf (b : Bool) (w : World) (e : Ending) (w' : World) : Prop := ∃ T : Array Value, e = .returned (.tuple #[.agg T, .bool b]) ∧ (T.size = 64 ∧ T.all (·.oneCell') = true) ∧ ∃ u : Ext, w' = w.ext u
theorem of_any (w : World) (S : Nat → Prop) (A : Option Addr) (n c : Nat) (regs : Int) (xs : List Int) (h : Sl w S A n c xs) (hr : regs ≤ 64) :
    Calls Try.prog 82 #[.int .i64 regs, .slice A n c] w (RetOf (argsOk regs [] xs) w) := by
  have hn := h.nle
  have HL := hide h.len
  have HS := hide h; clear h
  have close : ∀ (b : Bool) (T : Array Value), T.size = 64 → (∀ j, j < 64 → ∃ b, T[j]? = some (.bool b)) → RetOf b w (.returned (.tuple #[.agg T, .bool b])) (w.alloc (.cells T 151)) := by
    intro b T hT hx
    refine ⟨T, rfl, ⟨hT, ?_⟩, ext_alloc w _⟩
    rw [Array.all_eq_true]
    intro i hi
    obtain ⟨b, hb⟩ := hx i (by omega)
    rw [Array.getElem?_eq_getElem hi] at hb
    rw [Option.some.inj hb]; rfl
  have CL := hide close; clear close
  go_enter Try.func82, Try.ntmps82
  go_wp2
  go_loopw [10] (fun i wr => ∃ k : Nat, ∃ T : Array Value, ∃ pre : List Int, k ≤ n ∧ i = .int .i64 k ∧ wr = w.alloc (.cells T 151) ∧ T.size = 64 ∧ (∀ j : Nat, j < 64 → T[j]? = some (.bool (hasI j pre))) ∧ argsOk regs [] xs = argsOk regs pre (xs.drop k)) (fun i _ => n - (intOf i).toNat)
  case atStart => exact ⟨0, _, [], Nat.zero_le _, rfl, rfl, rfl, fun j hj => by show (Array.replicate 64 (Value.bool false))[j]? = _; simp [hj, hasI], rfl⟩
  case round =>
    obtain ⟨k, T, pre, hk, rfl, rfl, hT, hx, hr'⟩ := hrel
    have HX := hide hx; have HT := hide hT; have HR := hide hr'
    clear hx hT hr'
    have HLV := hide (run_loadVar_new (P := Try.prog) w 151 T 64 4 Try.underlying151 (by rw [HT.out]; exact size_set))
    have HA := hide (show T.all (·.oneCell') = true by
      rw [Array.all_eq_true]
      intro i hi
      have hb := HX.out i (by rw [← HT.out]; exact hi)
      rw [Array.getElem?_eq_getElem hi] at hb
      rw [Option.some.inj hb]; rfl)
    have HSZ := hide (show (Try.prog.info? 151).map (·.size) = some T.size by rw [HT.out]; exact size_set)
    have hcl : ∀ b, RetOf b w (.returned (.tuple #[.agg T, .bool b])) (w.alloc (.cells T 151)) := fun b => CL.out b T HT.out fun j hj => ⟨_, HX.out j hj⟩
    have HCL := hide hcl; clear hcl
    have hres : ∀ b, argsOk regs [] xs = b → RetOf b w (.returned (.tuple #[.agg T, .bool b])) (w.alloc (.cells T 151)) → RetOf (argsOk regs [] xs) w (.returned (.tuple #[.agg T, .bool b])) (w.alloc (.cells T 151)) := fun b h h' => by rw [h]; exact h'
    have HRES := hide hres; clear hres
    by_cases hlt : k < n
    · obtain ⟨b, off, x, rfl, hb, hx, hi, hc⟩ := at_int HS.out hlt
      have HD := hide (drop_at hx); have HI := hide hi
      clear hx hi
      by_cases h0 : x < 0
      · have hf : argsOk regs [] xs = false := by rw [HR.out, HD.out]; simp [argsOk]; intro h; omega
        have HF := hide hf; clear hf
        go_wp2_with (first | (refine wpList_load_row rfl 151 (.tmp 4) rfl w.heap.size rfl 151 T (0, 0) _ (heap_alloc_last w _) Try.underlying151 rfl HSZ.out ?_) | (refine wpList_store_new rfl 151 (.tmp 4) (.tmp 26) rfl w w.heap.size T T rfl rfl rfl rfl HSZ.out rfl HA.out ?_))
        refine bodyPost_ret (v := .tuple #[.agg T, .bool false]) (results_cell_tmp Try.results82 _ _ rfl HLV.out) rfl (HRES.out false HF.out (HCL.out _))
      by_cases h1 : regs ≤ x
      · have hf : argsOk regs [] xs = false := by rw [HR.out, HD.out]; simp [argsOk]; intro _ h; omega
        have HF := hide hf; clear hf
        have h0' : decide (x < 0) = false := by simpa using h0
        clear h0
        go_wp2_with (first | (refine wpList_load_row rfl 151 (.tmp 4) rfl w.heap.size rfl 151 T (0, 0) _ (heap_alloc_last w _) Try.underlying151 rfl HSZ.out ?_) | (refine wpList_store_new rfl 151 (.tmp 4) (.tmp 26) rfl w w.heap.size T T rfl rfl rfl rfl HSZ.out rfl HA.out ?_))
        refine bodyPost_ret (v := .tuple #[.agg T, .bool false]) (results_cell_tmp Try.results82 _ _ rfl HLV.out) rfl (HRES.out false HF.out (HCL.out _))
      obtain ⟨j, rfl⟩ := Int.eq_ofNat_of_zero_le (show 0 ≤ x by omega)
      have hj : j < 64 := by omega
      have hc' := HX.out j hj
      have h0' : decide ((j : Int) < 0) = false := by simp
      have h1' : decide ((j : Int) ≥ regs) = false := by simp; omega
      have h2 : (j : Int) < 64 := by omega
      by_cases hp : hasI j pre = true
      · have hf : argsOk regs [] xs = false := by rw [HR.out, HD.out]; simp [argsOk, hp]
        have HF := hide hf; clear hf
        rw [hp] at hc'
        have HP := hide hp; clear hp h0
        go_wp2_with (first | (refine wpList_load_row rfl 151 (.tmp 4) rfl w.heap.size rfl 151 T (0, 0) _ (heap_alloc_last w _) Try.underlying151 rfl HSZ.out ?_) | (refine wpList_store_new rfl 151 (.tmp 4) (.tmp 26) rfl w w.heap.size T T rfl rfl rfl rfl HSZ.out rfl HA.out ?_))
        refine bodyPost_ret (v := .tuple #[.agg T, .bool false]) (results_cell_tmp Try.results82 _ _ rfl HLV.out) rfl (HRES.out false HF.out (HCL.out _))
      · have hp' : hasI j pre = false := by simpa using hp
        rw [hp'] at hc'
        have HP := hide hp'; clear hp hp' h0
        go_wp2
        go_roundw
        case rel =>
          refine ⟨k + 1, T.setIfInBounds j (.bool true), (j : Int) :: pre, by omega, by go_num, rfl, by simp [HT.out], fun i hi => ?_, ?_⟩
          · rw [Array.getElem?_setIfInBounds]
            by_cases e : j = i
            · subst e; rw [if_pos rfl, if_pos (by rw [HT.out]; omega)]; simp [hasI]
            · rw [if_neg e, HX.out i hi]
              have : ((j : Int) == (i : Int)) = false := by rw [beq_eq_false_iff_ne]; omega
              simp [hasI, this]
          · rw [HR.out, HD.out]
            have : (j : Int) < regs := by omega
            simp [argsOk, HP.out, this]
        case measure => simp [intOf]; omega
    · have hf : argsOk regs [] xs = true := by rw [HR.out, drop_end HL.out hlt]; rfl
      have HF := hide hf; clear hf
      go_wp2_with (first | (refine wpList_load_row rfl 151 (.tmp 4) rfl w.heap.size rfl 151 T (0, 0) _ (heap_alloc_last w _) Try.underlying151 rfl HSZ.out ?_) | (refine wpList_store_new rfl 151 (.tmp 4) (.tmp 30) rfl w w.heap.size T T rfl rfl rfl rfl HSZ.out rfl HA.out ?_))
      refine bodyPost_ret (v := .tuple #[.agg T, .bool true]) (results_cell_tmp Try.results82 _ _ rfl HLV.out) rfl (HRES.out true HF.out (HCL.out _))

theorem hasI_iff (v : Int) (l : List Int) : hasI v l = true ↔ v ∈ l := by
  induction l with
  | nil => simp [hasI]
  | cons x l ih =>
    simp only [hasI, Bool.or_eq_true, beq_iff_eq, ih, List.mem_cons]
    constructor
    · rintro (h | h)
      · exact .inl h.symm
      · exact .inr h
    · rintro (h | h)
      · exact .inl h.symm
      · exact .inr h
theorem hasI_mem {v : Int} {l m : List Int} (h : ∀ x, x ∈ l ↔ x ∈ m) : hasI v l = hasI v m := by
  rw [Bool.eq_iff_iff, hasI_iff, hasI_iff, h]
theorem argsOk_mem (regs : Int) (xs : List Int) : ∀ {l m : List Int}, (∀ x, x ∈ l ↔ x ∈ m) → argsOk regs l xs = argsOk regs m xs := by
  induction xs with
  | nil => intros; rfl
  | cons x xs ih =>
    intro l m h
    simp only [argsOk]
    rw [hasI_mem h, ih (l := x :: l) (m := x :: m) (fun y => by simp [h y])]
/-- What 'argsOk' asks, in words. -/
theorem argsOk_iff (regs : Int) (xs : List Int) : ∀ pre : List Int, argsOk regs pre xs = true ↔ (∀ x ∈ xs, 0 ≤ x ∧ x < regs ∧ x ∉ pre) ∧ xs.Nodup := by
  induction xs with
  | nil => intro pre; simp [argsOk]
  | cons x xs ih =>
    intro pre
    have hm : (hasI x pre = false) ↔ x ∉ pre := by rw [← hasI_iff]; simp
    simp only [argsOk, Bool.and_eq_true, decide_eq_true_eq, Bool.not_eq_true', hm, ih, List.mem_cons, List.nodup_cons, not_or]
    constructor
    · rintro ⟨⟨⟨h1, h2⟩, h3⟩, h4, h5⟩
      refine ⟨fun y hy => ?_, fun hx => (h4 x hx).2.2.1 rfl, h5⟩
      rcases hy with rfl | hy
      · exact ⟨h1, h2, h3⟩
      · exact ⟨(h4 y hy).1, (h4 y hy).2.1, (h4 y hy).2.2.2⟩
    · rintro ⟨h1, h2, h3⟩
      refine ⟨⟨⟨(h1 x (.inl rfl)).1, (h1 x (.inl rfl)).2.1⟩, (h1 x (.inl rfl)).2.2⟩, fun y hy => ?_, h3⟩
      exact ⟨(h1 y (.inr hy)).1, (h1 y (.inr hy)).2.1, fun e => h2 (e ▸ hy), (h1 y (.inr hy)).2.2⟩
theorem savedOk_iff (regs : Int) (xs : List Int) : ∀ p : Option Int, savedOk regs p xs = true ↔ (∀ x ∈ xs, 0 ≤ x ∧ x < regs) ∧ (∀ q, p = some q → ∀ x ∈ xs.head?, q < x) ∧ xs.Pairwise (· < ·) := by
  induction xs with
  | nil => intro p; simp [savedOk]
  | cons x xs ih =>
    intro p
    simp only [savedOk, Bool.and_eq_true, decide_eq_true_eq, ih, List.mem_cons, List.head?_cons, Option.mem_def, Option.some.injEq, List.pairwise_cons]
    constructor
    · rintro ⟨⟨⟨h1, h2⟩, h3⟩, h4, h5, h6⟩
      refine ⟨fun y hy => ?_, ?_, ?_, h6⟩
      · rcases hy with rfl | hy
        · exact ⟨h1, h2⟩
        · exact h4 y hy
      · rintro q rfl y rfl
        simpa using h3
      · intro y hy
        cases xs with
        | nil => simp at hy
        | cons z zs =>
          have hz := h5 x rfl z (by simp)
          rcases List.mem_cons.1 hy with rfl | hy
          · exact hz
          · exact Int.lt_trans hz ((List.pairwise_cons.1 h6).1 y hy)
    · rintro ⟨h1, h2, h3, h4⟩
      refine ⟨⟨h1 x (.inl rfl), ?_⟩, fun y hy => h1 y (.inr hy), ?_, h4⟩
      · cases p with
        | none => rfl
        | some q => simpa using h2 q rfl x rfl
      · rintro q rfl y hy
        refine h3 y ?_
        cases xs with
        | nil => simp at hy
        | cons z zs => simp at hy; subst hy; simp
theorem sortedTo_iff (xs : List Int) : ∀ k, sortedTo xs k = true ↔ ∀ i, i < k → xs.getD i 0 ≤ xs.getD (i + 1) 0 := by
  intro k
  induction k with
  | zero => simp [sortedTo]
  | succ k ih =>
    simp only [sortedTo, Bool.and_eq_true, Bool.not_eq_true', decide_eq_false_iff_not, ih]
    constructor
    · rintro ⟨h1, h2⟩ i hi
      by_cases e : i = k
      · subst e; omega
      · exact h2 i (by omega)
    · intro h
      exact ⟨by have := h k (by omega); omega, fun i hi => h i (by omega)⟩
end Go.Proofs.Ytkjipgelbjaggaa
