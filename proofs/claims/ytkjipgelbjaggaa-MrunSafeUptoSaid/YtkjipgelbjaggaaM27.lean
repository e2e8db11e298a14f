/- Walks: what an instruction makes. Walks: what an instruction makes. Walks: loads and stores. Walks: small functions, second part. -/
import Derived.Test.YtkjipgelbjaggaaM26
import Derived.Test.YtkjipgelbjaggaaM02
set_option linter.unusedSimpArgs false
set_option linter.unusedVariables false
namespace Go.Proofs.Ytkjipgelbjaggaa
open Go.RowKit Go.Maps
theorem Sl.tail_ {α : Type} [Rep α] {w : World} {S : Nat → Prop} {b off n c : Nat} {xs : List α} (h : Sl w S (some ⟨b, off, none⟩) n c xs) (hn : 1 < c) : Sl w S (some ⟨b, off + Rep.size α, none⟩) (n - 1) (c - 1) xs.tail := by
  obtain ⟨h1, h2, h3, h4, h5⟩ := h
  refine ⟨by rw [List.length_tail]; omega, by omega, by omega, (fun e => by cases e), fun hp => ?_⟩
  obtain ⟨b', off', e, hb, hS, hx⟩ := h5 (by omega)
  injection e with e; injection e with e1 e2 e3
  subst e1 e2
  refine ⟨b, off + Rep.size α, rfl, hb, hS, fun i x hi => ?_⟩
  obtain ⟨us, hus, hc⟩ := hx (i + 1) x (by rw [List.getElem?_tail] at hi; exact hi)
  refine ⟨us, hus, fun j u hj => ?_⟩
  have := hc j u hj
  rwa [show off + Rep.size α + (i * Rep.size α + j) = off + ((i + 1) * Rep.size α + j) by rw [Nat.add_mul]; omega]
set_option maxHeartbeats 1000000 in
theorem answer9_any (w : World) (base X K : Nat) (q : RunM) (r : RunS) (h : RunAt w base X K q r) (hne : r.answers ≠ []) :
    Calls Try.prog 91 #[.pointer (some ⟨X, 0, none⟩)] w (RunTo (.int .i64 ((r.answers.head?.getD 0))) base X K q { r with answers := r.answers.tail } w) := by
  have HR := hide h
  have hlen := h.answers.len
  have hpos : 0 < q.na := by
    rw [← hlen]; exact List.length_pos_iff.2 hne
  obtain ⟨b, off, x, hA, hb, hx, hxi, hc⟩ := at_int h.answers hpos
  have hxd : (r.answers.head?.getD 0) = x := by
    cases hr : r.answers with
    | nil => exact (hne hr).elim
    | cons y l => rw [hr] at hx; simpa using hx
  have HXD := hide hxd
  have HA := hide hA
  have k13 := h.k13
  rw [hA] at k13
  have hcap : q.na ≤ q.ca := h.answers.2.1
  have hmax : q.ca ≤ 9223372036854775807 := by have := h.answers.2.2.1; unfold maxLen at this; omega
  have f13 := h.fz 13
  have hS := h.answers
  rw [hA] at hS
  have HS := hide hS
  have hbX := h.hX
  rw [Nat.add_zero] at hc
  rw [hxd]
  have HL := hide hlen
  clear h hxd hA hx hxi hne hS hlen
  by_cases h1 : q.ca = 1
  · have e1 : q.na = 1 := by omega
    rw [h1, e1] at k13
    have HT := hide (show Sl w q.S (some ⟨b, off, none⟩) 0 0 r.answers.tail by
      refine ⟨by rw [List.length_tail, HL.out, e1], Nat.le_refl _, by simp [maxLen], (fun e => by cases e), fun h => absurd h (by omega)⟩)
    clear h1 e1 hcap hmax hpos
    go_enter Try.func91, Try.ntmps91
    go_wp2_with fail
    go_ret
    exact ⟨rfl, _, HR.out.put_answers HT.out, RunFr.put _ _ fun _ h => h⟩
  · have h1' : 1 < q.ca := by omega
    have HT := hide (HS.out.tail_ h1')
    go_enter Try.func91, Try.ntmps91
    go_wp2_with fail
    go_ret
    exact ⟨rfl, _, HR.out.put_answers HT.out, RunFr.put _ _ fun _ h => h⟩
end Go.Proofs.Ytkjipgelbjaggaa
set_option linter.unusedSimpArgs false
set_option linter.unusedVariables false
namespace Go.Proofs.Ytkjipgelbjaggaa
open Go.RowKit Go.Maps
def TupV (n : Int) (b : Bool) : Value := .tuple #[.int .i64 n, .bool b]
abbrev ValTo (base X K : Nat) (q : RunM) (r : RunS) (i : Ins) (w : World) : Ending → World → Prop := RunTo (TupV (valueR r i).2.1 (valueR r i).2.2) base X K q (valueR r i).1 w
theorem valTo_mk {base X K : Nat} {r r' : RunS} {q q' : RunM} {i : Ins} {w w' : World} {n : Int} {b : Bool} (he : valueR r i = (r', n, b)) (hr : RunAt w' base X K q' r') (hb : RunFr q q' X w w') : ValTo base X K q r i w (.returned (.tuple #[.int .i64 n, .bool b])) w' := by
  unfold ValTo TupV; rw [he]; exact ⟨rfl, _, hr, hb⟩
section
variable (w : World) (base X K : Nat) (q : RunM) (r : RunS) (h : RunAt w base X K q r) (i : Ins) (Ai : Option Addr) (ni ci : Nat) (ia : InI i.a) (ib : InI i.b) (ii : InI i.imm) (ic : InI i.callee) (ir : InI r.m.ret)
include h ia ib
theorem lookups (V : World) (hV : Below w.heap.size w V) : (∀ u : Ext, (Instr.lookup 97 (.map (some q.bc)) (.agg #[.bool false, .int .i64 i.a]) false).run Try.prog (V.ext u) = .ok (.int .i64 ((r.cells ⟨false, i.a⟩).getD 0)) (V.ext u)) ∧
    (∀ u : Ext, (Instr.lookup 97 (.map (some q.bc)) (.agg #[.bool false, .int .i64 i.b]) false).run Try.prog (V.ext u) = .ok (.int .i64 ((r.cells ⟨false, i.b⟩).getD 0)) (V.ext u)) :=
  ⟨fun u => MapP.get (K := locK) (E := cellE) (x := ⟨false, i.a⟩) ((h.keep hV).cells.ext u) Try.underlying97 ia, fun u => MapP.get (K := locK) (E := cellE) (x := ⟨false, i.b⟩) ((h.keep hV).cells.ext u) Try.underlying97 ib⟩
set_option maxHeartbeats 2000000 in
set_option maxRecDepth 8000 in
theorem value_const (ho : i.op = 1) : Calls Try.prog 69 #[.pointer (some ⟨X, 0, none⟩), .agg #[.int .i64 i.op, .int .i64 i.dst, .int .i64 i.a, .int .i64 i.b, .int .i64 i.imm, .int .i64 i.callee, .slice Ai ni ci, .int .i64 i.many]] w (ValTo base X K q r i w) := by
  have HR := hide h
  have HO := hide ho
  have hlt := h.lt; have k0 := h.k0; have hbX := h.hX
  obtain ⟨q1, q2⟩ := lookups w base X K q r h i ia ib (w.alloc (.cells #[.int .i64 i.op, .int .i64 i.dst, .int .i64 i.a, .int .i64 i.b, .int .i64 i.imm, .int .i64 i.callee, .slice Ai ni ci, .int .i64 i.many] 66)) (by repeat (first | exact Below.refl _ _ | assumption | refine Below.alloc ?_ (by simp [size_ext]; try omega) _ | refine Below.ext ?_ (by simp [size_ext]; try omega) _ | refine Below.drew ?_ | refine Below.setCell ?_ (by simp [size_ext]; try omega) _))
  rw [ho] at q1 q2 ⊢
  clear h ho ia ib
  go_enter Try.func69, Try.ntmps69
  go_wp2_with fail
  refine wp_region_ext (by kernel_rfl) (by kernel_rfl) ?_
  repeat (any_goals (first | go_big_quiet_step (((go_at_call 42; exact quiet_retx (reg9_any _ _)))) | quiet_step (((go_at_call 42; exact quiet_retx (reg9_any _ _))))))
  refine wpQuiet_nil ?_
  rintro _ ⟨uq, rfl⟩
  go_wp2_with fail
  go_ret2
  exact valTo_mk (by unfold valueR; rw [if_pos HO.out]) ((HR.out.alloc _).ext uq) (RunFr.of_below (((Below.refl _ _).alloc (Nat.le_refl _) _).ext (by simp) _))
include ii ic ir in
set_option maxHeartbeats 2000000 in
set_option maxRecDepth 8000 in
theorem value_call (hn1 : q.n1 ≤ 1048576) (hcl : r.calls.length ≤ 1048576) (ho : i.op = 13) : Calls Try.prog 69 #[.pointer (some ⟨X, 0, none⟩), .agg #[.int .i64 i.op, .int .i64 i.dst, .int .i64 i.a, .int .i64 i.b, .int .i64 i.imm, .int .i64 i.callee, .slice Ai ni ci, .int .i64 i.many]] w (ValTo base X K q r i w) := by
  have HR := hide h
  have HO := hide ho
  have hlt := h.lt; have k0 := h.k0; have hbX := h.hX
  have IA := hide ia; have IB := hide ib; have II := hide ii; have IC := hide ic; have IR := hide ir
  obtain ⟨q1, q2⟩ := lookups w base X K q r h i ia ib (w.alloc (.cells #[.int .i64 i.op, .int .i64 i.dst, .int .i64 i.a, .int .i64 i.b, .int .i64 i.imm, .int .i64 i.callee, .slice Ai ni ci, .int .i64 i.many] 66)) (by repeat (first | exact Below.refl _ _ | assumption | refine Below.alloc ?_ (by simp [size_ext]; try omega) _ | refine Below.ext ?_ (by simp [size_ext]; try omega) _ | refine Below.drew ?_ | refine Below.setCell ?_ (by simp [size_ext]; try omega) _))
  have HCA := hide fun (W : World) (hW : Below w.heap.size w W) => call9_any W base X K q r (HR.out.keep hW) i Ai ni ci IA.out IB.out II.out IC.out IR.out hn1 hcl
  have hval : valueR r i = (if (callR9 r i).2 then ({ (callR9 r i).1 with answers := r.answers.tail }, (r.answers.head?.getD 0), true) else ((callR9 r i).1, 0, false)) := by unfold valueR; rw [if_neg (by omega), if_pos HO.out]
  have HV := hide hval
  rw [ho] at q1 q2 HCA ⊢
  clear h ho ia ib ii ic ir hval hn1 hcl
  by_cases ha : r.answers = []
  · have hc2 : (callR9 r i).2 = false := by unfold callR9; rw [if_pos ha]
    have HV2 := hide (show valueR r i = ((callR9 r i).1, 0, false) by rw [HV.out, if_neg (by rw [hc2]; simp)])
    rw [hc2] at HCA
    clear ha hc2
    go_enter Try.func69, Try.ntmps69
    go_wp2_with fail
    refine wp_region_ext (by kernel_rfl) (by kernel_rfl) ?_
    repeat (any_goals (first | go_big_quiet_step (((go_at_call 42; exact quiet_retx (reg9_any _ _)))) | quiet_step (((go_at_call 42; exact quiet_retx (reg9_any _ _))))))
    refine wpQuiet_nil ?_
    rintro _ ⟨uq, rfl⟩
    go_wp2_with (go_at_call 90; refine (HCA.out _ (by repeat (first | exact Below.refl _ _ | assumption | refine Below.alloc ?_ (by simp [size_ext]; try omega) _ | refine Below.ext ?_ (by simp [size_ext]; try omega) _ | refine Below.drew ?_ | refine Below.setCell ?_ (by simp [size_ext]; try omega) _))).mono ?_; rintro e w1 ⟨rfl, q', hq', hb'⟩; have HQ' := hide hq'; have HB' := hide hb'; clear hq' hb')
    go_ret2
    exact valTo_mk HV2.out HQ'.out ((RunFr.of_below (((Below.refl _ _).alloc (Nat.le_refl _) _).ext (by simp) _)).trans HB'.out)
  · have hc2 : (callR9 r i).2 = true := by unfold callR9; rw [if_neg ha]
    have hca : (callR9 r i).1.answers = r.answers := by unfold callR9; rw [if_neg ha]; rfl
    have HV2 := hide (show valueR r i = ({ (callR9 r i).1 with answers := r.answers.tail }, (r.answers.head?.getD 0), true) by rw [HV.out, if_pos hc2])
    have HCN := hide (show (callR9 r i).1.answers ≠ [] by rw [hca]; exact ha)
    have HCH := hide hca
    rw [hc2] at HCA
    clear ha hc2 hca
    go_enter Try.func69, Try.ntmps69
    go_wp2_with fail
    refine wp_region_ext (by kernel_rfl) (by kernel_rfl) ?_
    repeat (any_goals (first | go_big_quiet_step (((go_at_call 42; exact quiet_retx (reg9_any _ _)))) | quiet_step (((go_at_call 42; exact quiet_retx (reg9_any _ _))))))
    refine wpQuiet_nil ?_
    rintro _ ⟨uq, rfl⟩
    go_wp2_with (first
      | (go_at_call 90; refine (HCA.out _ (by repeat (first | exact Below.refl _ _ | assumption | refine Below.alloc ?_ (by simp [size_ext]; try omega) _ | refine Below.ext ?_ (by simp [size_ext]; try omega) _ | refine Below.drew ?_ | refine Below.setCell ?_ (by simp [size_ext]; try omega) _))).mono ?_; rintro e w1 ⟨rfl, q', hq', hb'⟩; have HQ' := hide hq'; have HB' := hide hb'; clear hq' hb')
      | (go_at_call 91; refine (answer9_any _ base X K q' _ HQ'.out HCN.out).mono ?_; rintro e w2 ⟨rfl, q2', hq', hb'⟩; have HQ2 := hide hq'; have HB2 := hide hb'; clear hq' hb'))
    go_ret2
    rw [HCH.out]
    exact valTo_mk HV2.out (by have := HQ2.out; rw [HCH.out] at this; exact this) (((RunFr.of_below (((Below.refl _ _).alloc (Nat.le_refl _) _).ext (by simp) _)).trans HB'.out).trans HB2.out)
end
end Go.Proofs.Ytkjipgelbjaggaa
set_option linter.unusedSimpArgs false
set_option linter.unusedVariables false
namespace Go.Proofs.Ytkjipgelbjaggaa
open Go.RowKit Go.Maps
theorem u64_neg {n : Int} (h : InI n) (hn : n < 0) : 9223372036854775807 ≤ IntKind.u64.wrap n := by
  unfold InI at h
  simp only [IntKind.wrap, IntKind.bits, IntKind.signed]
  simp
  omega
theorem wrap64_in (n : Int) : InI (wrap64 n) := by
  unfold wrap64 InI
  omega
theorem u64_pos {n : Int} (hn : 0 ≤ n) (h : InI n) : IntKind.u64.wrap n = n := by
  unfold InI at h
  simp only [IntKind.wrap, IntKind.bits, IntKind.signed]
  simp
  omega
theorem OwnL.form_ne {α : Type} [Rep α] {w : World} {base : Nat} {T : TypeId} {S : Nat → Prop} {v : Value} {xs : List α} (h : OwnL w base T S v xs) (hne : 0 < xs.length) : ∃ g c, v = .slice (some ⟨g, 0, none⟩) xs.length c := by
  obtain ⟨vals, ⟨_, h⟩, _⟩ := h
  rcases h with ⟨rfl, h0⟩ | ⟨g, cap, cur, rfl, _⟩
  · omega
  · exact ⟨_, _, rfl⟩
section
variable (w : World) (base X K : Nat) (q : RunM) (r : RunS) (h : RunAt w base X K q r) (i : Ins) (Ai : Option Addr) (ni ci : Nat) (ia : InI i.a) (ib : InI i.b)
include h ia ib
set_option maxHeartbeats 2000000 in
set_option maxRecDepth 8000 in
theorem value_load (ho : i.op = 11) : Calls Try.prog 69 #[.pointer (some ⟨X, 0, none⟩), .agg #[.int .i64 i.op, .int .i64 i.dst, .int .i64 i.a, .int .i64 i.b, .int .i64 i.imm, .int .i64 i.callee, .slice Ai ni ci, .int .i64 i.many]] w (ValTo base X K q r i w) := by
  have HR := hide h
  have HO := hide ho
  have hlt := h.lt; have k0 := h.k0; have hbX := h.hX
  obtain ⟨q1, q2⟩ := lookups w base X K q r h i ia ib (w.alloc (.cells #[.int .i64 i.op, .int .i64 i.dst, .int .i64 i.a, .int .i64 i.b, .int .i64 i.imm, .int .i64 i.callee, .slice Ai ni ci, .int .i64 i.many] 66)) (by repeat (first | exact Below.refl _ _ | assumption | refine Below.alloc ?_ (by simp [size_ext]; try omega) _ | refine Below.ext ?_ (by simp [size_ext]; try omega) _ | refine Below.drew ?_ | refine Below.setCell ?_ (by simp [size_ext]; try omega) _))
  obtain ⟨Am, cm, hvm⟩ := h.mem.form
  have k12 := h.k12
  rw [hvm] at k12
  have HVM := hide hvm
  have hval : valueR r i = (if 0 ≤ memN r i ∧ memN r i < r.mem.length then (r, r.mem.getD (memN r i).toNat 0, true) else (r, 0, false)) := by unfold valueR; rw [if_neg (by omega), if_neg (by omega), if_pos HO.out]
  have HV := hide hval
  obtain ⟨N, hN⟩ : ∃ N, N = memN r i := ⟨_, rfl⟩
  have HN := hide hN
  have hNw := hN
  unfold memN at hNw
  have HNW := hide hNw
  rw [ho] at q1 q2 ⊢
  clear h ho ia ib hval hN hNw hvm
  obtain ⟨M, hM⟩ : ∃ M, M = r.mem.length := ⟨_, rfl⟩
  have HM := hide hM
  rw [← hM] at k12
  clear hM
  by_cases hin : 0 ≤ N ∧ N < (M : Int)
  · obtain ⟨j, rfl⟩ := Int.eq_ofNat_of_zero_le hin.1
    have hsum := HNW.out.symm
    have hj : j < M := by omega
    have hj' : ¬ M ≤ j := by omega
    have hmem := HR.out.mem
    rw [HVM.out] at hmem
    have hsl := hmem.sl (S' := fun _ => True) (fun _ _ _ => trivial)
    have hM64 : M ≤ 9223372036854775807 := by have := hsl.nle; rw [HM.out]; exact this
    obtain ⟨b, off, x, hA, hb, hx, hxi, hc⟩ := at_int hsl (k := j) (by have := HM.out; omega)
    have HX := hide hx; have HV2 := hide (show valueR r i = (r, x, true) by
      rw [HV.out, ← HN.out, if_pos ⟨by omega, by rw [← HM.out]; exact hin.2⟩]
      simp [List.getD_eq_getElem?_getD, hx])
    rw [hA] at k12
    clear hin hmem hsl hx hxi hA
    go_enter Try.func69, Try.ntmps69
    go_wp2_with fail
    refine wp_region_ext (by kernel_rfl) (by kernel_rfl) ?_
    repeat (any_goals (first | go_big_quiet_step (((go_at_call 42; exact quiet_retx (reg9_any _ _)))) | quiet_step (((go_at_call 42; exact quiet_retx (reg9_any _ _))))))
    refine wpQuiet_nil ?_
    rintro _ ⟨uq, rfl⟩
    go_wp2_with fail
    go_ret2
    exact valTo_mk HV2.out ((HR.out.alloc _).ext uq) (RunFr.of_below (((Below.refl _ _).alloc (Nat.le_refl _) _).ext (by simp) _))
  · have hsum := HNW.out.symm
    have hM64 : M ≤ 9223372036854775807 := by have := HR.out.mem; rw [HVM.out] at this; have := (this.sl (S' := fun _ => True) (fun _ _ _ => trivial)).nle; rw [HM.out]; exact this
    have hw : (M : Int) ≤ IntKind.u64.wrap N := by
      have hi := wrap64_in ((r.cells ⟨false, i.a⟩).getD 0 + i.imm)
      rw [hsum] at hi
      by_cases h0 : N < 0
      · have := u64_neg hi h0; omega
      · rw [u64_pos (by omega) hi]; omega
    have HV2 := hide (show valueR r i = (r, 0, false) by rw [HV.out, ← HN.out, if_neg (by rw [← HM.out]; exact hin)])
    clear hin
    go_enter Try.func69, Try.ntmps69
    go_wp2_with fail
    refine wp_region_ext (by kernel_rfl) (by kernel_rfl) ?_
    repeat (any_goals (first | go_big_quiet_step (((go_at_call 42; exact quiet_retx (reg9_any _ _)))) | quiet_step (((go_at_call 42; exact quiet_retx (reg9_any _ _))))))
    refine wpQuiet_nil ?_
    rintro _ ⟨uq, rfl⟩
    go_wp2_with fail
    go_ret2
    exact valTo_mk HV2.out ((HR.out.alloc _).ext uq) (RunFr.of_below (((Below.refl _ _).alloc (Nat.le_refl _) _).ext (by simp) _))
set_option maxHeartbeats 2000000 in
set_option maxRecDepth 8000 in
theorem value_store (ho : i.op = 12) : Calls Try.prog 69 #[.pointer (some ⟨X, 0, none⟩), .agg #[.int .i64 i.op, .int .i64 i.dst, .int .i64 i.a, .int .i64 i.b, .int .i64 i.imm, .int .i64 i.callee, .slice Ai ni ci, .int .i64 i.many]] w (ValTo base X K q r i w) := by
  have HR := hide h
  have HO := hide ho
  have hlt := h.lt; have k0 := h.k0; have hbX := h.hX
  obtain ⟨q1, q2⟩ := lookups w base X K q r h i ia ib (w.alloc (.cells #[.int .i64 i.op, .int .i64 i.dst, .int .i64 i.a, .int .i64 i.b, .int .i64 i.imm, .int .i64 i.callee, .slice Ai ni ci, .int .i64 i.many] 66)) (by repeat (first | exact Below.refl _ _ | assumption | refine Below.alloc ?_ (by simp [size_ext]; try omega) _ | refine Below.ext ?_ (by simp [size_ext]; try omega) _ | refine Below.drew ?_ | refine Below.setCell ?_ (by simp [size_ext]; try omega) _))
  have hval : valueR r i = (if 0 ≤ memN r i ∧ memN r i < r.mem.length then ({ r with mem := r.mem.set (memN r i).toNat ((r.cells ⟨false, i.b⟩).getD 0) }, (r.cells ⟨false, i.b⟩).getD 0, true) else (r, 0, false)) := by unfold valueR; rw [if_neg (by omega), if_neg (by omega), if_neg (by omega), if_pos HO.out]
  have HV := hide hval
  obtain ⟨N, hN⟩ : ∃ N, N = memN r i := ⟨_, rfl⟩
  have HN := hide hN
  have hNw := hN
  unfold memN at hNw
  have HNW := hide hNw
  have HGB := hide (show InI ((r.cells ⟨false, i.b⟩).getD 0) from h.cells.getD_good _)
  rw [ho] at q1 q2 ⊢
  have k12 := h.k12
  have hmem := h.mem
  clear h ho ia ib hval hN hNw
  have hsum := HNW.out.symm
  have hi := wrap64_in ((r.cells ⟨false, i.a⟩).getD 0 + i.imm)
  rw [hsum] at hi
  have HI := hide hi; clear hi
  obtain ⟨M, hM⟩ : ∃ M, M = r.mem.length := ⟨_, rfl⟩
  have HM := hide hM
  by_cases hin : 0 ≤ N ∧ N < (M : Int)
  · obtain ⟨j, rfl⟩ := Int.eq_ofNat_of_zero_le hin.1
    obtain ⟨g, cm, hvm⟩ := hmem.form_ne (by omega)
    rw [hvm] at k12 hmem
    have HVM := hide hvm
    have hj : j < M := by omega
    have hj' : ¬ M ≤ j := by omega
    have hM64 : M ≤ 9223372036854775807 := by have := (hmem.sl (S' := fun _ => True) (fun _ _ _ => trivial)).nle; rw [HM.out]; exact this
    obtain ⟨x, hx⟩ : ∃ x, r.mem[j]? = some x := ⟨_, List.getElem?_eq_getElem (by rw [← HM.out]; exact hj)⟩
    obtain ⟨us, hus, hc, hfz⟩ := hmem.cell_at hx
    obtain ⟨rfl, hxi⟩ := hus
    have hgl : g < w.heap.size := (hmem.below_ g rfl).2
    have hgb : base ≤ g := (hmem.below_ g rfl).1
    have hcj : w.cell? ⟨g, j, none⟩ = some (.int .i64 x) := by have := hc 0 _ rfl; rwa [show j * Rep.size Int + 0 = j by show j * 1 + 0 = j; omega] at this
    have hfj := hfz j
    have hgX : g ≠ X := (HR.out.dm g (by rw [hvm]; rfl)).1
    have hXg : X ≠ g := Ne.symm hgX
    have HX := hide hx
    have HV2 := hide (show valueR r i = ({ r with mem := r.mem.set j ((r.cells ⟨false, i.b⟩).getD 0) }, (r.cells ⟨false, i.b⟩).getD 0, true) by
      rw [HV.out, ← HN.out, if_pos ⟨by omega, by rw [← HM.out]; exact hin.2⟩]; rfl)
    rw [← HM.out] at k12
    clear hin hmem hx hxi hvm hM hc hfz
    go_enter Try.func69, Try.ntmps69
    go_wp2_with fail
    refine wp_region_ext (by kernel_rfl) (by kernel_rfl) ?_
    repeat (any_goals (first | go_big_quiet_step (((go_at_call 42; exact quiet_retx (reg9_any _ _)))) | quiet_step (((go_at_call 42; exact quiet_retx (reg9_any _ _))))))
    refine wpQuiet_nil ?_
    rintro _ ⟨uq, rfl⟩
    go_wp2_with fail
    go_ret2
    exact valTo_mk HV2.out (((HR.out.put_mem (by rw [HVM.out]) HX.out HGB.out).alloc _).ext uq) ((RunFr.set_mem (by rw [HVM.out]; rfl)).trans (RunFr.of_below (((Below.refl _ _).alloc (Nat.le_refl _) _).ext (by simp) _)))
  · obtain ⟨Am, cm, hvm⟩ := hmem.form
    rw [hvm, ← hM] at k12
    have hM64 : M ≤ 9223372036854775807 := by rw [hvm] at hmem; have := (hmem.sl (S' := fun _ => True) (fun _ _ _ => trivial)).nle; rw [HM.out]; exact this
    have hw : (M : Int) ≤ IntKind.u64.wrap N := by
      by_cases h0 : N < 0
      · have := u64_neg HI.out h0; omega
      · rw [u64_pos (by omega) HI.out]; omega
    have HV2 := hide (show valueR r i = (r, 0, false) by rw [HV.out, ← HN.out, if_neg (by rw [← HM.out]; exact hin)])
    clear hin hvm hmem hM
    go_enter Try.func69, Try.ntmps69
    go_wp2_with fail
    refine wp_region_ext (by kernel_rfl) (by kernel_rfl) ?_
    repeat (any_goals (first | go_big_quiet_step (((go_at_call 42; exact quiet_retx (reg9_any _ _)))) | quiet_step (((go_at_call 42; exact quiet_retx (reg9_any _ _))))))
    refine wpQuiet_nil ?_
    rintro _ ⟨uq, rfl⟩
    go_wp2_with fail
    go_ret2
    exact valTo_mk HV2.out ((HR.out.alloc _).ext uq) (RunFr.of_below (((Below.refl _ _).alloc (Nat.le_refl _) _).ext (by simp) _))
end
end Go.Proofs.Ytkjipgelbjaggaa
set_option linter.unusedSimpArgs false
set_option linter.unusedVariables false
namespace Go.Proofs.Ytkjipgelbjaggaa
open Go.RowKit

theorem inserted_any (o : Int) (w : World) : Calls Try.prog 28 #[.int .i64 o] w (Ret (.bool (insertedB o)) w) := by
  by_cases h1 : o = 15
  · subst h1; go_enter Try.func28, Try.ntmps28
    go_wp2; go_ret; exact Ret.b rfl
  by_cases h2 : o = 16
  · subst h2; go_enter Try.func28, Try.ntmps28
    go_wp2; go_ret; exact Ret.b rfl
  by_cases h3 : o = 17
  · subst h3; go_enter Try.func28, Try.ntmps28
    go_wp2; go_ret; exact Ret.b rfl
  have e1 : (o == 15) = false := by simpa using h1
  have e2 : (o == 16) = false := by simpa using h2
  have e3 : (o == 17) = false := by simpa using h3
  have key : insertedB o = false := by simp [insertedB, e1, e2, e3]
  have K := hide key; clear key h1 h2 h3
  go_enter Try.func28, Try.ntmps28
  go_wp2; go_ret; exact Ret.b K.out.symm
theorem pick_any (x n : Int) (w : World) (hx : InI x) (hn : InI n) : Calls Try.prog 12 #[.int .i64 x, .int .i64 n] w (Ret (.int .i64 (pickI x n)) w) := by
  obtain ⟨x1, x2⟩ := hx
  obtain ⟨n1, n2⟩ := hn
  by_cases h1 : n < 1
  · have key : pickI x n = 0 := by simp [pickI, h1]
    have K := hide key; clear key
    go_enter Try.func12, Try.ntmps12
    go_wp2; go_ret; exact Ret.i K.out.symm
  have b1 : x.tmod n < n := Int.tmod_lt_of_pos _ (by omega)
  have b2 : -n < x.tmod n := by
    have := Int.tmod_lt_of_pos (-x) (show 0 < n by omega)
    rw [Int.neg_tmod] at this
    omega
  have b3 : (n == 0) = false := by rw [beq_eq_false_iff_ne]; omega
  by_cases h2 : x.tmod n < 0
  · have key : pickI x n = x.tmod n + n := by simp [pickI, h1, h2]
    have K := hide key; clear key
    go_enter Try.func12, Try.ntmps12
    go_wp2; go_ret; exact Ret.i K.out.symm
  · have key : pickI x n = x.tmod n := by simp [pickI, h1, h2]
    have K := hide key; clear key
    go_enter Try.func12, Try.ntmps12
    go_wp2; go_ret; exact Ret.i K.out.symm
theorem machineOf_any (w : World) (S : Nat → Prop) (m : Machine) (A1 A2 : Option Addr) (n1 c1 n2 c2 : Nat) (h1 : Sl w S A1 n1 c1 m.args) (h2 : Sl w S A2 n2 c2 m.saved)
    (hb : n1 ≤ 1048576 ∧ n2 ≤ 1048576) :
    Calls Try.prog 9 #[.agg #[.int .i64 m.regs, .slice A1 n1 c1, .int .i64 m.ret, .slice A2 n2 c2]] w (RetX (.int .i64 ((n1 : Int) + n2)) w) := by
  obtain ⟨b1, b2⟩ := hb
  go_enter Try.func9, Try.ntmps9
  go_wp2; go_ret; exact RetX.i rfl (by repeat (first | exact Below.refl _ _ | assumption | refine Below.alloc ?_ (by simp [size_ext]; try omega) _ | refine Below.ext ?_ (by simp [size_ext]; try omega) _ | refine Below.drew ?_ | refine Below.setCell ?_ (by simp [size_ext]; try omega) _))
end Go.Proofs.Ytkjipgelbjaggaa
