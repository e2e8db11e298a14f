/- Walks: sets of registers, with what they hold; those that a call loses. Plain: the registers that a call loses. Walks: the table of parts. law05: walks: is a register saved. (As in law09's texts, without what they lean on.) The program's structs, and what they read as. Written by gen_types.py. -/
import Derived.Test.YtcfimcghckjmeaaGreatDoorW9
import Derived.Test.YtcfimcghckjmeaaGreatDoorG2
import Derived.Test.YtcfimcghckjmeaaGreatDoorG17
import Derived.Test.YtcfimcghckjmeaaGreatDoorG0
set_option linter.unusedSimpArgs false
set_option linter.unusedVariables false
namespace Go.Proofs.YtcfimcghckjmeaaGreatDoor
open Go.RowKit
def RetOf2 (xs : List Int) (b : Bool) (w : World) (e : Ending) (w' : World) : Prop := ∃ T : Array Value, e = .returned (.tuple #[.agg T, .bool b]) ∧ (T.size = 64 ∧ T.all (·.oneCell') = true) ∧ (b = true → ∀ j : Nat, j < 64 → T[j]? = some (.bool (hasI j xs))) ∧ ∃ u : Ext, w' = w.ext u
theorem of2_any (w : World) (S : Nat → Prop) (A : Option Addr) (n c : Nat) (regs : Int) (xs : List Int) (h : Sl w S A n c xs) (hr : regs ≤ 64) :
    Calls Tryz.prog 41 #[.int .i64 regs, .slice A n c] w (RetOf2 xs (argsOk regs [] xs) w) := by
  have hn := h.nle
  have HL := hide h.len
  have HS := hide h; clear h
  have close : ∀ (b : Bool) (T : Array Value), T.size = 64 → (∀ j, j < 64 → ∃ b, T[j]? = some (.bool b)) → (b = true → ∀ j : Nat, j < 64 → T[j]? = some (.bool (hasI j xs))) → RetOf2 xs b w (.returned (.tuple #[.agg T, .bool b])) (w.alloc (.cells T 65)) := by
    intro b T hT hx hfin
    refine ⟨T, rfl, ⟨hT, ?_⟩, hfin, ext_alloc w _⟩
    rw [Array.all_eq_true]
    intro i hi
    obtain ⟨b, hb⟩ := hx i (by omega)
    rw [Array.getElem?_eq_getElem hi] at hb
    rw [Option.some.inj hb]; rfl
  have CL := hide close; clear close
  go_enter Tryz.func41, Tryz.ntmps41
  go_wp2
  go_loopw [10] (fun i wr => ∃ k : Nat, ∃ T : Array Value, ∃ pre : List Int, k ≤ n ∧ i = .int .i64 k ∧ wr = w.alloc (.cells T 65) ∧ T.size = 64 ∧ (∀ j : Nat, j < 64 → T[j]? = some (.bool (hasI j pre))) ∧ argsOk regs [] xs = argsOk regs pre (xs.drop k) ∧ ∀ v, v ∈ pre ↔ v ∈ xs.take k) (fun i _ => n - (intOf i).toNat)
  case atStart => exact ⟨0, _, [], Nat.zero_le _, rfl, rfl, rfl, fun j hj => by show (Array.replicate 64 (Value.bool false))[j]? = _; simp [hj, hasI], rfl, by simp⟩
  case round =>
    obtain ⟨k, T, pre, hk, rfl, rfl, hT, hx, hr', hpre⟩ := hrel
    have HPRE := hide hpre; clear hpre
    have HX := hide hx; have HT := hide hT; have HR := hide hr'
    clear hx hT hr'
    have HLV := hide (run_loadVar_new (P := Tryz.prog) w 65 T 64 4 Tryz.underlying65 (by rw [HT.out]; exact size_set))
    have HA := hide (show T.all (·.oneCell') = true by
      rw [Array.all_eq_true]
      intro i hi
      have hb := HX.out i (by rw [← HT.out]; exact hi)
      rw [Array.getElem?_eq_getElem hi] at hb
      rw [Option.some.inj hb]; rfl)
    have HSZ := hide (show (Tryz.prog.info? 65).map (·.size) = some T.size by rw [HT.out]; exact size_set)
    have hcl : ∀ b, (b = true → ∀ j : Nat, j < 64 → T[j]? = some (.bool (hasI j xs))) → RetOf2 xs b w (.returned (.tuple #[.agg T, .bool b])) (w.alloc (.cells T 65)) := fun b => CL.out b T HT.out fun j hj => ⟨_, HX.out j hj⟩
    have HCL := hide hcl; clear hcl
    have hres : ∀ b, argsOk regs [] xs = b → RetOf2 xs b w (.returned (.tuple #[.agg T, .bool b])) (w.alloc (.cells T 65)) → RetOf2 xs (argsOk regs [] xs) w (.returned (.tuple #[.agg T, .bool b])) (w.alloc (.cells T 65)) := fun b h h' => by rw [h]; exact h'
    have HRES := hide hres; clear hres
    by_cases hlt : k < n
    · obtain ⟨b, off, x, rfl, hb, hx, hi, hc⟩ := at_int HS.out hlt
      have HD := hide (drop_at hx); have HI := hide hi; have TK := hide (take_at hx)
      clear hx hi
      by_cases h0 : x < 0
      · have hf : argsOk regs [] xs = false := by rw [HR.out, HD.out]; simp [argsOk]; intro h; omega
        have HF := hide hf; clear hf
        go_wp2_with (first | (refine wpList_load_row rfl 65 (.tmp 4) rfl w.heap.size rfl 65 T (0, 0) _ (heap_alloc_last w _) Tryz.underlying65 rfl HSZ.out ?_) | (refine wpList_store_new rfl 65 (.tmp 4) (.tmp 26) rfl w w.heap.size T T rfl rfl rfl rfl HSZ.out rfl HA.out ?_))
        refine bodyPost_ret (v := .tuple #[.agg T, .bool false]) (results_cell_tmp Tryz.results41 _ _ rfl HLV.out) rfl (HRES.out false HF.out (HCL.out _ (fun h => by cases h)))
      by_cases h1 : regs ≤ x
      · have hf : argsOk regs [] xs = false := by rw [HR.out, HD.out]; simp [argsOk]; intro _ h; omega
        have HF := hide hf; clear hf
        have h0' : decide (x < 0) = false := by simpa using h0
        clear h0
        go_wp2_with (first | (refine wpList_load_row rfl 65 (.tmp 4) rfl w.heap.size rfl 65 T (0, 0) _ (heap_alloc_last w _) Tryz.underlying65 rfl HSZ.out ?_) | (refine wpList_store_new rfl 65 (.tmp 4) (.tmp 26) rfl w w.heap.size T T rfl rfl rfl rfl HSZ.out rfl HA.out ?_))
        refine bodyPost_ret (v := .tuple #[.agg T, .bool false]) (results_cell_tmp Tryz.results41 _ _ rfl HLV.out) rfl (HRES.out false HF.out (HCL.out _ (fun h => by cases h)))
      obtain ⟨j, rfl⟩ := Int.eq_ofNat_of_zero_le (show 0 ≤ x by omega)
      have hj : j < 64 := by omega
      have hc' := HX.out j hj
      have h0' : decide ((j : Int) < 0) = false := by simp
      have h1' : decide ((j : Int) ≥ regs) = false := by simp; omega
      have h2 : (j : Int) < 64 := by omega
      by_cases hp : hasI j pre = true
      · have hf : argsOk regs [] xs = false := by rw [HR.out, HD.out]; simp [argsOk, hp]
        have HF := hide hf; clear hf
        rw [hp] at hc'
        have HP := hide hp; clear hp h0
        go_wp2_with (first | (refine wpList_load_row rfl 65 (.tmp 4) rfl w.heap.size rfl 65 T (0, 0) _ (heap_alloc_last w _) Tryz.underlying65 rfl HSZ.out ?_) | (refine wpList_store_new rfl 65 (.tmp 4) (.tmp 26) rfl w w.heap.size T T rfl rfl rfl rfl HSZ.out rfl HA.out ?_))
        refine bodyPost_ret (v := .tuple #[.agg T, .bool false]) (results_cell_tmp Tryz.results41 _ _ rfl HLV.out) rfl (HRES.out false HF.out (HCL.out _ (fun h => by cases h)))
      · have hp' : hasI j pre = false := by simpa using hp
        rw [hp'] at hc'
        have HP := hide hp'; clear hp hp' h0
        go_wp2
        go_roundw
        case rel =>
          refine ⟨k + 1, T.setIfInBounds j (.bool true), (j : Int) :: pre, by omega, by go_num, rfl, by simp [HT.out], fun i hi => ?_, ?_, fun v => ?_⟩
          · rw [Array.getElem?_setIfInBounds]
            by_cases e : j = i
            · subst e; rw [if_pos rfl, if_pos (by rw [HT.out]; omega)]; simp [hasI]
            · rw [if_neg e, HX.out i hi]
              have : ((j : Int) == (i : Int)) = false := by rw [beq_eq_false_iff_ne]; omega
              simp [hasI, this]
          · rw [HR.out, HD.out]
            have : (j : Int) < regs := by omega
            simp [argsOk, HP.out, this]
          · rw [TK.out, List.mem_cons, List.mem_append, List.mem_singleton, HPRE.out v]; exact or_comm
        case measure => simp [intOf]; omega
    · have hf : argsOk regs [] xs = true := by rw [HR.out, drop_end HL.out hlt]; rfl
      have HF := hide hf; clear hf
      go_wp2_with (first | (refine wpList_load_row rfl 65 (.tmp 4) rfl w.heap.size rfl 65 T (0, 0) _ (heap_alloc_last w _) Tryz.underlying65 rfl HSZ.out ?_) | (refine wpList_store_new rfl 65 (.tmp 4) (.tmp 30) rfl w w.heap.size T T rfl rfl rfl rfl HSZ.out rfl HA.out ?_))
      refine bodyPost_ret (v := .tuple #[.agg T, .bool true]) (results_cell_tmp Tryz.results41 _ _ rfl HLV.out) rfl (HRES.out true HF.out (HCL.out _ (fun _ j hj => by rw [HX.out j hj, hasI_mem (l := pre) (m := xs) (fun v => by rw [HPRE.out v, take_end HL.out hlt])])))

end Go.Proofs.YtcfimcghckjmeaaGreatDoor
set_option linter.unusedSimpArgs false
set_option linter.unusedVariables false
namespace Go.Proofs.YtcfimcghckjmeaaGreatDoor
open Go.RowKit
/-- The registers below n that are not among xs, in order. -/
def lostTo (n : Nat) (xs : List Int) : List Int := ((List.range n).filter fun j : Nat => !hasI (j : Int) xs).map fun j : Nat => (j : Int)
def lostM (m : Machine) : List Int := if rightM m then lostTo m.regs.toNat m.saved else []
theorem lostTo_succ (k : Nat) (xs : List Int) : lostTo (k + 1) xs = lostTo k xs ++ (if hasI k xs then [] else [(k : Int)]) := by
  unfold lostTo
  rw [List.range_succ, List.filter_append, List.map_append]
  by_cases h : hasI k xs = true
  · simp [h]
  · simp [h]
theorem lostTo_len (k : Nat) (xs : List Int) : (lostTo k xs).length ≤ k := by
  unfold lostTo
  rw [List.length_map]
  exact Nat.le_trans (List.length_filter_le _ _) (by simp)
theorem lostTo_all (n : Nat) (xs : List Int) (h : ∀ k, k < n → hasI k xs = false) : ∀ k ≤ n, lostTo k xs = (List.range k).map fun j : Nat => (j : Int) := by
  intro k hk
  unfold lostTo
  rw [List.filter_eq_self.2 fun j hj => by rw [h j (by have := List.mem_range.1 hj; omega)]; rfl]
theorem lostTo_mem {n : Nat} {xs : List Int} {v : Int} : v ∈ lostTo n xs ↔ 0 ≤ v ∧ v < n ∧ hasI v xs = false := by
  unfold lostTo
  rw [List.mem_map]
  constructor
  · rintro ⟨j, hj, rfl⟩
    obtain ⟨h1, h2⟩ := List.mem_filter.1 hj
    exact ⟨by omega, by have := List.mem_range.1 h1; omega, by simpa using h2⟩
  · rintro ⟨h0, h1, h2⟩
    obtain ⟨j, rfl⟩ := Int.eq_ofNat_of_zero_le h0
    exact ⟨j, List.mem_filter.2 ⟨List.mem_range.2 (by omega), by simpa using h2⟩, rfl⟩
end Go.Proofs.YtcfimcghckjmeaaGreatDoor
set_option linter.unusedSimpArgs false
set_option linter.unusedVariables false
namespace Go.Proofs.YtcfimcghckjmeaaGreatDoor
open Go.RowKit

def tabAt (k i : Nat) : Int := if 2 ≤ i ∧ i < k then 7 else if i = 1 then 9 else if i = 11 then 11 else if i = 12 then 14 else if i = 13 then 32 else if i = 15 then 3 else if i = 16 then 18 else if i = 17 then 17 else 0
theorem tab_hasP (i : Nat) (h : i < 18) : tabAt 11 i = hasP i := by
  have : i = 0 ∨ i = 1 ∨ i = 2 ∨ i = 3 ∨ i = 4 ∨ i = 5 ∨ i = 6 ∨ i = 7 ∨ i = 8 ∨ i = 9 ∨ i = 10 ∨ i = 11 ∨ i = 12 ∨ i = 13 ∨ i = 14 ∨ i = 15 ∨ i = 16 ∨ i = 17 := by omega
  rcases this with h | h | h | h | h | h | h | h | h | h | h | h | h | h | h | h | h | h <;> subst h <;> decide
theorem hasP_out (o : Int) (h : o < 0 ∨ 18 ≤ o) : hasP o = 0 := by
  unfold hasP
  rw [if_neg (by omega), if_neg (by omega), if_neg (by omega), if_neg (by omega), if_neg (by omega), if_neg (by omega), if_neg (by omega), if_neg (by omega)]
end Go.Proofs.YtcfimcghckjmeaaGreatDoor
set_option linter.unusedSimpArgs false
set_option linter.unusedVariables false
namespace Go.Proofs.YtcfimcghckjmeaaGreatDoor
open Go.RowKit
theorem index5_any (w : World) (S : Nat → Prop) (A : Option Addr) (n c : Nat) (xs : List Int) (v : Int) (h : Sl w S A n c xs) :
    Calls Tryz.prog 69 #[.slice A n c, .int .i64 v] w (Ret (.int .i64 (idxF (fun x => x == v) 0 xs)) w) := by
  have hn := h.nle
  have HL := hide h.len
  have HS := hide h
  clear h
  go_enter Tryz.func69, Tryz.ntmps69
  go_wp2
  go_loop [8] (fun i => ∃ k : Nat, k ≤ n ∧ i = .int .i64 k ∧ idxF (fun x => x == v) 0 xs = idxF (fun x => x == v) k (xs.drop k)) (fun i => n - (intOf i).toNat)
  case atStart => exact ⟨0, Nat.zero_le _, rfl, rfl⟩
  case round =>
    obtain ⟨k, hk, rfl, hr⟩ := hrel
    have HR := hide hr; clear hr
    by_cases hlt : k < n
    · obtain ⟨b, off, x, rfl, hb, hx, hxi, hc⟩ := at_int HS.out hlt
      have HX := hide (drop_at hx); clear hx
      by_cases hv : x = v
      · subst hv
        have e : (x == x) = true := by simp
        go_wp2
        go_ret
        exact Ret.i (by rw [HR.out, HX.out]; simp [idxF])
      · have e : (v == x) = false := by rw [beq_eq_false_iff_ne]; exact fun h => hv h.symm
        have HV := hide (show (x == v) = false by rw [beq_eq_false_iff_ne]; exact hv)
        clear hv
        go_wp2
        go_round
        case rel => exact ⟨k + 1, by omega, by go_num, by rw [HR.out, HX.out]; simp [idxF, HV.out]⟩
        case measure => simp [intOf]; omega
    · go_wp2
      go_ret
      exact Ret.i (by rw [HR.out, drop_end HL.out hlt]; rfl)
theorem anyF5_hasI (v : Int) : ∀ xs : List Int, anyF (fun x => x == v) xs = hasI v xs
  | [] => rfl
  | x :: l => by simp only [anyF, hasI, anyF5_hasI v l]
theorem idx5_ge (f : Int → Bool) : ∀ (xs : List Int) (k : Nat), decide (0 ≤ idxF f k xs) = anyF f xs
  | [], _ => rfl
  | x :: l, k => by
    unfold idxF anyF
    cases hf : f x
    · simp only [Bool.false_or]; exact idx5_ge f l (k + 1)
    · simp
theorem contains5_any (w : World) (S : Nat → Prop) (A : Option Addr) (n c : Nat) (xs : List Int) (v : Int) (h : Sl w S A n c xs) :
    Calls Tryz.prog 44 #[.slice A n c, .int .i64 v] w (Ret (.bool (hasI v xs)) w) := by
  go_enter Tryz.func44, Tryz.ntmps44
  go_wp2_with (go_at_call 69; refine (index5_any _ S A n c xs v h).mono ?_; rintro e w' ⟨rfl, rfl⟩)
  go_ret
  exact Ret.b (by rw [← anyF5_hasI, ← idx5_ge _ xs 0])
theorem isSaved5_any (w : World) (S2 : Nat → Prop) (m : Machine) (v1 : Value) (A2 : Option Addr) (n2 c2 : Nat) (h2 : Sl w S2 A2 n2 c2 m.saved) (r : Int) :
    Calls Tryz.prog 16 #[.agg #[.int .i64 m.regs, v1, .int .i64 m.ret, .slice A2 n2 c2], .int .i64 r] w (RetX (.bool (hasI r m.saved)) w) := by
  have HS := hide h2
  clear h2
  go_enter Tryz.func16, Tryz.ntmps16
  go_wp2_with (go_at_call 44; refine (contains5_any _ S2 A2 n2 c2 m.saved r (by repeat (first | assumption | exact Hd.out (by assumption) | apply Sl.alloc | apply Sl.ext | apply Sl.drew | apply Sl.drewN))).mono ?_; rintro e w' ⟨rfl, rfl⟩)
  go_ret
  exact RetX.b rfl (by repeat (first | exact Below.refl _ _ | assumption | refine Below.alloc ?_ (by simp [size_ext]; try omega) _ | refine Below.ext ?_ (by simp [size_ext]; try omega) _ | refine Below.drew ?_ | refine Below.setCell ?_ (by simp [size_ext]; try omega) _))
end Go.Proofs.YtcfimcghckjmeaaGreatDoor
set_option linter.unusedSimpArgs false
set_option linter.unusedVariables false
namespace Go.Proofs.YtcfimcghckjmeaaGreatDoor
open Go.RowKit

structure Fact where
  var : Int
  slot : Bool
  n : Int
  deriving DecidableEq, Inhabited
instance : Rep Fact := Rep.via fun x => (x.var, x.slot, x.n)
theorem Fact.open_ {w : World} {S : Nat → Prop} {x : Fact} {vs : List Value} (h : Rep.is w S x vs) : vs = [.int .i64 x.var, .bool x.slot, .int .i64 x.n] ∧ InI x.var ∧ InI x.n := by
  obtain ⟨us0, ts0, e0, h0, r0⟩ := h
  obtain ⟨us1, ts1, e1, h1, r1⟩ := r0
  obtain ⟨v2, f2⟩ := h0
  have v3 := h1
  obtain ⟨v4, f4⟩ := r1
  refine ⟨?_, f2, f4⟩
  subst_vars; simp
theorem Fact.mk_ {w : World} {S : Nat → Prop} {x : Fact} (f0 : InI x.var) (f1 : InI x.n) : Rep.is w S x [.int .i64 x.var, .bool x.slot, .int .i64 x.n] := by
  exact ⟨_, _, rfl, ⟨rfl, f0⟩, ⟨_, _, rfl, rfl, ⟨rfl, f1⟩⟩⟩
theorem at_Fact {w : World} {S : Nat → Prop} {A : Option Addr} {n c : Nat} {xs : List Fact} (h : Sl w S A n c xs) {k : Nat} (hk : k < n) :
    ∃ b off, ∃ x : Fact, A = some ⟨b, off, none⟩ ∧ b < w.heap.size ∧ xs[k]? = some x ∧ InI x.var ∧ InI x.n ∧ w.cell? ⟨b, off + k * 3, none⟩ = some (.int .i64 x.var) ∧ w.cell? ⟨b, off + k * 3 + 1, none⟩ = some (.bool x.slot) ∧ w.cell? ⟨b, off + k * 3 + 2, none⟩ = some (.int .i64 x.n) := by
  obtain ⟨b, off, x, us, e, hb, _, hx, hus, hc⟩ := h.at_ hk
  obtain ⟨rfl, g0, g1⟩ := Fact.open_ hus
  refine ⟨b, off, x, e, hb, hx, g0, g1, ?_, ?_, ?_⟩
  · have := hc 0 _ rfl; simpa [Rep.size, Nat.add_assoc] using this
  · have := hc 1 _ rfl; simpa [Rep.size, Nat.add_assoc] using this
  · have := hc 2 _ rfl; simpa [Rep.size, Nat.add_assoc] using this

end Go.Proofs.YtcfimcghckjmeaaGreatDoor
