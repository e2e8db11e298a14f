/- Plain: the two ways to say that a machine is right say the same. Walks: machines that are right. Walks: machines that are right, the program's way. Walks: sets of registers, with what they hold; those that a call loses. Plain: the registers that a call loses. -/
import Derived.Test.YtbppamjogdjfkaaW7
import Derived.Deep.RegionHeld3
import Derived.Deep.RegionWith
import Derived.Test.YtbppamjogdjfkaaN4
import Derived.Test.YtbppamjogdjfkaaN3
set_option linter.unusedSimpArgs false
set_option linter.unusedVariables false
namespace Go.Proofs.Ytbppamjogdjfkaa

theorem pair_le (xs : List Int) : (∀ i, i < xs.length - 1 → xs.getD i 0 ≤ xs.getD (i + 1) 0) ↔ xs.Pairwise (· ≤ ·) := by
  induction xs with
  | nil => simp
  | cons x l ih =>
    cases l with
    | nil => simp
    | cons y l =>
      rw [List.pairwise_cons, ← ih]
      constructor
      · intro h
        have h0 : x ≤ y := by have := h 0 (by simp); simpa using this
        have h1 : ∀ i, i < (y :: l).length - 1 → (y :: l).getD i 0 ≤ (y :: l).getD (i + 1) 0 := fun i hi => by
          have := h (i + 1) (by simp at hi ⊢; omega)
          simpa using this
        refine ⟨fun z hz => ?_, h1⟩
        rcases List.mem_cons.1 hz with rfl | hz
        · exact h0
        · exact Int.le_trans h0 ((List.pairwise_cons.1 (ih.1 h1)).1 z hz)
      · rintro ⟨h0, h1⟩ i hi
        cases i with
        | zero => simpa using h0 y (by simp)
        | succ i =>
          have := h1 i (by simp at hi ⊢; omega)
          simpa using this
theorem pair_lt (xs : List Int) : xs.Pairwise (· < ·) ↔ xs.Pairwise (· ≤ ·) ∧ xs.Nodup := by
  unfold List.Nodup
  constructor
  · intro h
    exact ⟨h.imp fun h => by omega, h.imp fun h => by omega⟩
  · rintro ⟨h1, h2⟩
    exact (h1.and h2).imp fun ⟨a, b⟩ => by omega
/-- The program's way. -/
def rightP (m : Machine) : Bool :=
  decide (1 ≤ m.regs) && decide (m.regs ≤ 64) && decide (m.args.length ≤ 8) && decide ((m.saved.length : Int) ≤ m.regs) && sortedTo m.saved (m.saved.length - 1) && (argsOk m.regs [] m.args && argsOk m.regs [] (m.ret :: m.saved))
theorem rightP_eq (m : Machine) : rightP m = rightM m := by
  rw [Bool.eq_iff_iff]
  have hm : (hasI m.ret m.saved = false) ↔ m.ret ∉ m.saved := by rw [← hasI_iff]; simp
  simp only [rightP, rightM, Bool.and_eq_true, decide_eq_true_eq, argsOk_iff, sortedTo_iff, savedOk_iff, Bool.not_eq_true', hm, pair_le, pair_lt, List.mem_cons, List.nodup_cons]
  constructor
  · rintro ⟨⟨⟨⟨⟨h1, h2⟩, h3⟩, h4⟩, h5⟩, h6, h7, h8, h9⟩
    exact ⟨⟨⟨⟨⟨⟨⟨⟨h1, h2⟩, h3⟩, h4⟩, (h7 m.ret (.inl rfl)).1⟩, (h7 m.ret (.inl rfl)).2.1⟩, h8⟩, h6⟩, fun x hx => ⟨(h7 x (.inr hx)).1, (h7 x (.inr hx)).2.1⟩, by simp, h5, h9⟩
  · rintro ⟨⟨⟨⟨⟨⟨⟨⟨h1, h2⟩, h3⟩, h4⟩, h5⟩, h6⟩, h7⟩, h8⟩, h9, h10, h11, h12⟩
    refine ⟨⟨⟨⟨⟨h1, h2⟩, h3⟩, h4⟩, h11⟩, h8, fun x hx => ?_, h7, h12⟩
    rcases hx with rfl | hx
    · exact ⟨h5, h6, by simp⟩
    · exact ⟨(h9 x hx).1, (h9 x hx).2, by simp⟩
end Go.Proofs.Ytbppamjogdjfkaa
set_option linter.unusedSimpArgs false
set_option linter.unusedVariables false
namespace Go.Proofs.Ytbppamjogdjfkaa
open Go.RowKit

end Go.Proofs.Ytbppamjogdjfkaa
set_option linter.unusedSimpArgs false
set_option linter.unusedVariables false
namespace Go.Proofs.Ytbppamjogdjfkaa
open Go.RowKit

theorem isSorted_eq {b : Bool} (w : World) (S : Nat → Prop) (A : Option Addr) (n c : Nat) (xs : List Int) (h : Sl w S A n c xs) (hb : sortedTo xs (n - 1) = b) :
    Calls Try.prog 27 #[.slice A n c] w (RetX (.bool b) w) := hb ▸ isSorted_any w S A n c xs h
def IsSet (T : Array Value) : Prop := T.size = 64 ∧ T.all (·.oneCell') = true
set_option maxHeartbeats 4000000 in
set_option maxRecDepth 8000 in
theorem rightm_any (w : World) (S1 S2 : Nat → Prop) (m : Machine) (A1 A2 : Option Addr) (n1 c1 n2 c2 : Nat) (h1 : Sl w S1 A1 n1 c1 m.args) (h2 : Sl w S2 A2 n2 c2 m.saved) (hi : InI m.ret) :
    Calls Try.prog 15 #[.agg #[.int .i64 m.regs, .slice A1 n1 c1, .int .i64 m.ret, .slice A2 n2 c2]] w (RetX (.bool (rightM m)) w) := by
  rw [← rightP_eq]
  have hn1 := h1.nle
  have hn2 := h2.nle
  have HL1 := hide h1.len; have HL2 := hide h2.len
  have H1 := hide h1; have H2 := hide h2; have HI := hide hi
  have neg : (m.regs < 1 ∨ 64 < m.regs ∨ 8 < n1 ∨ m.regs < (n2 : Int) ∨ sortedTo m.saved (n2 - 1) = false) → rightP m = false := by
    intro h
    rw [Bool.eq_false_iff]
    intro hr
    simp only [rightP, Bool.and_eq_true, decide_eq_true_eq] at hr
    obtain ⟨⟨⟨⟨⟨a1, a2⟩, a3⟩, a4⟩, a5⟩, a6⟩ := hr
    rw [HL2.out] at a5 a4; rw [HL1.out] at a3
    rcases h with h | h | h | h | h
    · omega
    · omega
    · omega
    · omega
    · rw [h] at a5; cases a5
  have NEG := hide neg
  clear neg h1 h2 hi
  by_cases g1 : m.regs < 1
  · go_enter Try.func15, Try.ntmps15
    go_wp2; go_ret; exact RetX.b (NEG.out (by omega)).symm (by repeat (first | exact Below.refl _ _ | assumption | refine Below.alloc ?_ (by simp [size_ext]; try omega) _ | refine Below.ext ?_ (by simp [size_ext]; try omega) _ | refine Below.drew ?_ | refine Below.setCell ?_ (by simp [size_ext]; try omega) _))
  have d1 : decide (m.regs < 1) = false := by simpa using g1
  by_cases g2 : 64 < m.regs
  · go_enter Try.func15, Try.ntmps15
    go_wp2; go_ret; exact RetX.b (NEG.out (by omega)).symm (by repeat (first | exact Below.refl _ _ | assumption | refine Below.alloc ?_ (by simp [size_ext]; try omega) _ | refine Below.ext ?_ (by simp [size_ext]; try omega) _ | refine Below.drew ?_ | refine Below.setCell ?_ (by simp [size_ext]; try omega) _))
  have d2 : decide (m.regs > 64) = false := by simpa using g2
  by_cases g3 : 8 < n1
  · go_enter Try.func15, Try.ntmps15
    go_wp2; go_ret; exact RetX.b (NEG.out (by omega)).symm (by repeat (first | exact Below.refl _ _ | assumption | refine Below.alloc ?_ (by simp [size_ext]; try omega) _ | refine Below.ext ?_ (by simp [size_ext]; try omega) _ | refine Below.drew ?_ | refine Below.setCell ?_ (by simp [size_ext]; try omega) _))
  have d3 : decide ((n1 : Int) > 8) = false := by simp; omega
  by_cases g4 : m.regs < (n2 : Int)
  · go_enter Try.func15, Try.ntmps15
    go_wp2; go_ret; exact RetX.b (NEG.out (by omega)).symm (by repeat (first | exact Below.refl _ _ | assumption | refine Below.alloc ?_ (by simp [size_ext]; try omega) _ | refine Below.ext ?_ (by simp [size_ext]; try omega) _ | refine Below.drew ?_ | refine Below.setCell ?_ (by simp [size_ext]; try omega) _))
  have d4 : decide ((n2 : Int) > m.regs) = false := by simpa using g4
  by_cases g5 : sortedTo m.saved (n2 - 1) = false
  · have G5 := hide g5
    go_enter Try.func15, Try.ntmps15
    go_wp2_with (go_at_call 27; refine (isSorted_eq _ S2 A2 n2 c2 m.saved (by repeat (first | assumption | exact Hd.out (by assumption) | apply Sl.alloc | apply Sl.ext | apply Sl.drew | apply Sl.drewN)) G5.out).mono ?_; rintro e _ ⟨rfl, ux, rfl⟩)
    go_ret; exact RetX.b (NEG.out (.inr (.inr (.inr (.inr G5.out))))).symm (by repeat (first | exact Below.refl _ _ | assumption | refine Below.alloc ?_ (by simp [size_ext]; try omega) _ | refine Below.ext ?_ (by simp [size_ext]; try omega) _ | refine Below.drew ?_ | refine Below.setCell ?_ (by simp [size_ext]; try omega) _))
  have G5 := hide (show sortedTo m.saved (n2 - 1) = true by simpa using g5)
  have POS := hide (show rightP m = (argsOk m.regs [] m.args && argsOk m.regs [] (m.ret :: m.saved)) by
    have a1 : decide (1 ≤ m.regs) = true := by simp; omega
    have a2 : decide (m.regs ≤ 64) = true := by simp; omega
    have a3 : decide (m.args.length ≤ 8) = true := by rw [HL1.out]; simp; omega
    have a4 : decide ((m.saved.length : Int) ≤ m.regs) = true := by rw [HL2.out]; simp; omega
    unfold rightP
    rw [a1, a2, a3, a4, HL2.out, G5.out]; simp)
  have q1 : 1 ≤ m.regs := by omega
  have q2 : m.regs ≤ 64 := by omega
  have q3 : n2 ≤ 64 := by omega
  clear g1 g2 g3 g4 g5 NEG
  obtain ⟨i0, hi, hz, hz1, hz2⟩ := info_parts info_int
  have HI0 := hide hi; have HZ := hide hz; have HZ1 := hide hz1; have HZ2 := hide hz2
  clear hi hz hz1 hz2
  go_enter Try.func15, Try.ntmps15
  go_wp2_with (first
    | (go_at_call 27; refine (isSorted_eq _ S2 A2 n2 c2 m.saved (by repeat (first | assumption | exact Hd.out (by assumption) | apply Sl.alloc | apply Sl.ext | apply Sl.drew | apply Sl.drewN)) G5.out).mono ?_; rintro e _ ⟨rfl, ux, rfl⟩)
    | (go_at_call 28; refine (of_any _ S1 A1 n1 c1 m.regs m.args (by repeat (first | assumption | exact Hd.out (by assumption) | apply Sl.alloc | apply Sl.ext | apply Sl.drew | apply Sl.drewN)) q2).mono ?_; rintro e _ ⟨T1, rfl, hT1, u1, rfl⟩; have HT1 := hide hT1; clear hT1)
    | (refine wpList_store_new rfl 60 (.tmp 3) (.tmp 41) rfl (((w.alloc (.cells #[.int .i64 m.regs, .slice A1 n1 c1, .int .i64 m.ret, .slice A2 n2 c2] 24)).ext ux).ext u1) _ _ T1 rfl rfl ?e1 rfl ?e2 ?e3 HT1.out.2 ?_; rotate_left 3))
  case e1 => simp only [size_ext, World.size_alloc]
  case e2 => rw [HT1.out.1]; exact size_set
  case e3 => rw [HT1.out.1]; rfl
  obtain ⟨W, hW⟩ : ∃ W, W = ((((w.alloc (.cells #[.int .i64 m.regs, .slice A1 n1 c1, .int .i64 m.ret, .slice A2 n2 c2] 24)).ext ux).ext u1).alloc (.cells T1 60)) := ⟨_, rfl⟩
  have f0 : W.cell? ⟨w.heap.size, 0, none⟩ = some (.int .i64 m.regs) := by subst hW; go_simp
  have f2 : W.cell? ⟨w.heap.size, 2, none⟩ = some (.int .i64 m.ret) := by subst hW; go_simp
  have f3 : W.cell? ⟨w.heap.size, 3, none⟩ = some (.slice A2 n2 c2) := by subst hW; go_simp
  have FB := hide (show Below w.heap.size w W by subst hW; exact (by repeat (first | exact Below.refl _ _ | assumption | refine Below.alloc ?_ (by simp [size_ext]; try omega) _ | refine Below.ext ?_ (by simp [size_ext]; try omega) _ | refine Below.drew ?_ | refine Below.setCell ?_ (by simp [size_ext]; try omega) _)))
  have FS := hide (show w.heap.size + 1 ≤ W.heap.size by subst hW; simp [size_ext]; omega)
  have HS2 : Hd (Sl W S2 A2 n2 c2 m.saved) := hide (by subst hW; exact (by repeat (first | assumption | exact Hd.out (by assumption) | apply Sl.alloc | apply Sl.ext | apply Sl.drew | apply Sl.drewN)))
  rw [← hW]
  clear hW d1 d2 d3 d4 H1 H2
  have fsz : w.heap.size < W.heap.size := by have := FS.out; omega
  refine wp_region_flow_ext [13] [4, 7, 12] (by kernel_rfl) rfl (by kernel_rfl) ?_
  repeat (refine flow_known (by kernel_rfl) (fun K hK => ?_); go_simp; (first | (refine hK _ ?_; clear hK K) | (apply Exists.intro; refine ⟨fun _ => ?_, hK _ ?_⟩; (fail); clear hK K)))
  refine flow_keep0 (FullP 1 [m.ret]) (by kernel_rfl) (FullP.stable_ rfl) ?_ ?_
  · intro u
    go_simp
    exact ⟨FullP.lit (S := fun _ => True) rfl (by rw [size_ext]) (RepL.single ⟨rfl, HI.out⟩) rfl (by omega), onW_alloc rfl ⟨_, rfl⟩⟩
  repeat (refine flow_known (by kernel_rfl) (fun K hK => ?_); go_simp; (first | (refine hK _ ?_; clear hK K) | (apply Exists.intro; refine ⟨fun _ => ?_, hK _ ?_⟩; (fail); clear hK K)))
  refine flow_keep [true] (SlP (1 + n2) ([m.ret] ++ m.saved)) (by kernel_rfl) (SlP.stable_ rfl) ?_ ?_
  · intro u
    try simp only [List.nil_append, List.cons_append, useH_f, useH_t, useH_nil]
    rintro _ ⟨S, b, rfl, hs⟩
    refine HeldAt.push_full (α := Int) rfl (.tmp 48) (.tmp 50) 22 rfl 3 i0 _ 8 Try.underlying22 HI0.out HZ.out HZ1.out HZ2.out rfl (by decide) S S2 b 1 [m.ret] m.saved rfl hs A2 n2 c2 rfl (by repeat (first | assumption | exact Hd.out (by assumption) | apply Sl.alloc | apply Sl.ext | apply Sl.drew | apply Sl.drewN)) (by omega) (by omega) (fun x => onW_ext ⟨_, rfl⟩ ⟨x, rfl⟩)
  refine flow_keep [false, true] (PureP fun v => ∃ T : Array Value, v = .tuple #[.agg T, .bool (argsOk m.regs [] (m.ret :: m.saved))] ∧ IsSet T) (by kernel_rfl) (PureP.stable_ rfl) ?_ ?_
  · intro u
    try simp only [List.nil_append, List.cons_append, useH_f, useH_t, useH_nil]
    rintro _ ⟨S, A, c, rfl, hs⟩
    go_simp
    refine (of_any _ S A (1 + n2) c m.regs ([m.ret] ++ m.saved) hs q2).mono ?_
    rintro e _ ⟨T, rfl, hT, x, rfl⟩
    exact ⟨_, rfl, ⟨T, rfl, hT⟩, onW_ext ⟨_, rfl⟩ ⟨x, rfl⟩⟩
  refine flow_keep [false, false, true] (PureP fun v => ∃ T : Array Value, v = .tuple #[.agg T, .bool (argsOk m.regs [] (m.ret :: m.saved))] ∧ IsSet T) (by kernel_rfl) (PureP.stable_ rfl) ?_ ?_
  · intro u
    try simp only [List.nil_append, List.cons_append, useH_f, useH_t, useH_nil]
    rintro _ ⟨T, rfl, hT⟩
    go_simp
    exact ⟨⟨T, rfl, hT⟩, onW_same ⟨_, rfl⟩⟩
  refine flow_keep [false, false, false, true] (PureP fun v => ∃ T : Array Value, v = .agg T ∧ IsSet T) (by kernel_rfl) (PureP.stable_ rfl) ?_ ?_
  · intro u
    try simp only [List.nil_append, List.cons_append, useH_f, useH_t, useH_nil]
    rintro _ ⟨T, rfl, hT⟩
    go_simp
    exact ⟨⟨T, rfl, hT⟩, onW_same ⟨_, rfl⟩⟩
  refine flow_out [false, false, false, true, false] (.bool (argsOk m.regs [] (m.ret :: m.saved))) (by kernel_rfl) ?_ ?_
  · intro u
    try simp only [List.nil_append, List.cons_append, useH_f, useH_t, useH_nil]
    rintro _ ⟨T, rfl, hT⟩
    try simp only [List.nil_append, List.cons_append, useH_f, useH_t, useH_nil]
    go_simp
  refine flow_keep0 (NewP W.heap.size 64 60) (by kernel_rfl) (NewP.stable_ rfl) ?_ ?_
  · intro u
    go_simp
    exact ⟨NewP.mk_ rfl (by rw [size_ext]) (by omega) (by simp), onW_alloc rfl ⟨_, rfl⟩⟩
  refine flow_keep [false, false, false, false, true, true] (PureP fun _ => True) (by kernel_rfl) (PureP.stable_ rfl) ?_ ?_
  · intro u
    try simp only [List.nil_append, List.cons_append, useH_f, useH_t, useH_nil]
    rintro _ ⟨T, rfl, hT⟩
    try simp only [List.nil_append, List.cons_append, useH_f, useH_t, useH_nil]
    rintro _ ⟨g, rfl, hg, c, hc, hcs⟩
    exact HeldAt.store_new rfl 60 (.tmp 5) (.tmp 53) rfl g c T rfl rfl hg hc (by rw [hT.1]; rfl) (by rw [hcs, hT.1]) hT.2 ⟨u, rfl⟩
  repeat (refine flow_known (by kernel_rfl) (fun K hK => ?_); go_simp; (first | (refine hK _ ?_; clear hK K) | (apply Exists.intro; refine ⟨fun _ => ?_, hK _ ?_⟩; (fail); clear hK K)))
  refine flow_done [false, false, true, true, true, false, true] (by kernel_rfl) ?_
  intro uq
  simp only [List.nil_append, List.cons_append, endH_f, endH_t, endH_nil]
  rintro v1 v2 v3 _ v4 _ v5 _ v6 v7 _
  clear f0 f2 f3
  by_cases b1 : argsOk m.regs [] m.args = true
  · rw [b1]
    go_wp2; go_ret
    exact RetX.b (by rw [POS.out, b1]; simp) (Below.ext FB.out (by omega) uq)
  · have b1' : argsOk m.regs [] m.args = false := by simpa using b1
    rw [b1']
    go_wp2; go_ret
    exact RetX.b (by rw [POS.out, b1']; simp) (Below.ext FB.out (by omega) uq)
end Go.Proofs.Ytbppamjogdjfkaa
set_option linter.unusedSimpArgs false
set_option linter.unusedVariables false
namespace Go.Proofs.Ytbppamjogdjfkaa
open Go.RowKit
def RetOf2 (xs : List Int) (b : Bool) (w : World) (e : Ending) (w' : World) : Prop := ∃ T : Array Value, e = .returned (.tuple #[.agg T, .bool b]) ∧ (T.size = 64 ∧ T.all (·.oneCell') = true) ∧ (b = true → ∀ j : Nat, j < 64 → T[j]? = some (.bool (hasI j xs))) ∧ ∃ u : Ext, w' = w.ext u
theorem of2_any (w : World) (S : Nat → Prop) (A : Option Addr) (n c : Nat) (regs : Int) (xs : List Int) (h : Sl w S A n c xs) (hr : regs ≤ 64) :
    Calls Try.prog 28 #[.int .i64 regs, .slice A n c] w (RetOf2 xs (argsOk regs [] xs) w) := by
  have hn := h.nle
  have HL := hide h.len
  have HS := hide h; clear h
  have close : ∀ (b : Bool) (T : Array Value), T.size = 64 → (∀ j, j < 64 → ∃ b, T[j]? = some (.bool b)) → (b = true → ∀ j : Nat, j < 64 → T[j]? = some (.bool (hasI j xs))) → RetOf2 xs b w (.returned (.tuple #[.agg T, .bool b])) (w.alloc (.cells T 60)) := by
    intro b T hT hx hfin
    refine ⟨T, rfl, ⟨hT, ?_⟩, hfin, ext_alloc w _⟩
    rw [Array.all_eq_true]
    intro i hi
    obtain ⟨b, hb⟩ := hx i (by omega)
    rw [Array.getElem?_eq_getElem hi] at hb
    rw [Option.some.inj hb]; rfl
  have CL := hide close; clear close
  go_enter Try.func28, Try.ntmps28
  go_wp2
  go_loopw [10] (fun i wr => ∃ k : Nat, ∃ T : Array Value, ∃ pre : List Int, k ≤ n ∧ i = .int .i64 k ∧ wr = w.alloc (.cells T 60) ∧ T.size = 64 ∧ (∀ j : Nat, j < 64 → T[j]? = some (.bool (hasI j pre))) ∧ argsOk regs [] xs = argsOk regs pre (xs.drop k) ∧ ∀ v, v ∈ pre ↔ v ∈ xs.take k) (fun i _ => n - (intOf i).toNat)
  case atStart => exact ⟨0, _, [], Nat.zero_le _, rfl, rfl, rfl, fun j hj => by show (Array.replicate 64 (Value.bool false))[j]? = _; simp [hj, hasI], rfl, by simp⟩
  case round =>
    obtain ⟨k, T, pre, hk, rfl, rfl, hT, hx, hr', hpre⟩ := hrel
    have HPRE := hide hpre; clear hpre
    have HX := hide hx; have HT := hide hT; have HR := hide hr'
    clear hx hT hr'
    have HLV := hide (run_loadVar_new (P := Try.prog) w 60 T 64 4 Try.underlying60 (by rw [HT.out]; exact size_set))
    have HA := hide (show T.all (·.oneCell') = true by
      rw [Array.all_eq_true]
      intro i hi
      have hb := HX.out i (by rw [← HT.out]; exact hi)
      rw [Array.getElem?_eq_getElem hi] at hb
      rw [Option.some.inj hb]; rfl)
    have HSZ := hide (show (Try.prog.info? 60).map (·.size) = some T.size by rw [HT.out]; exact size_set)
    have hcl : ∀ b, (b = true → ∀ j : Nat, j < 64 → T[j]? = some (.bool (hasI j xs))) → RetOf2 xs b w (.returned (.tuple #[.agg T, .bool b])) (w.alloc (.cells T 60)) := fun b => CL.out b T HT.out fun j hj => ⟨_, HX.out j hj⟩
    have HCL := hide hcl; clear hcl
    have hres : ∀ b, argsOk regs [] xs = b → RetOf2 xs b w (.returned (.tuple #[.agg T, .bool b])) (w.alloc (.cells T 60)) → RetOf2 xs (argsOk regs [] xs) w (.returned (.tuple #[.agg T, .bool b])) (w.alloc (.cells T 60)) := fun b h h' => by rw [h]; exact h'
    have HRES := hide hres; clear hres
    by_cases hlt : k < n
    · obtain ⟨b, off, x, rfl, hb, hx, hi, hc⟩ := at_int HS.out hlt
      have HD := hide (drop_at hx); have HI := hide hi; have TK := hide (take_at hx)
      clear hx hi
      by_cases h0 : x < 0
      · have hf : argsOk regs [] xs = false := by rw [HR.out, HD.out]; simp [argsOk]; intro h; omega
        have HF := hide hf; clear hf
        go_wp2_with (first | (refine wpList_load_row rfl 60 (.tmp 4) rfl w.heap.size rfl 60 T (0, 0) _ (heap_alloc_last w _) Try.underlying60 rfl HSZ.out ?_) | (refine wpList_store_new rfl 60 (.tmp 4) (.tmp 26) rfl w w.heap.size T T rfl rfl rfl rfl HSZ.out rfl HA.out ?_))
        refine bodyPost_ret (v := .tuple #[.agg T, .bool false]) (results_cell_tmp Try.results28 _ _ rfl HLV.out) rfl (HRES.out false HF.out (HCL.out _ (fun h => by cases h)))
      by_cases h1 : regs ≤ x
      · have hf : argsOk regs [] xs = false := by rw [HR.out, HD.out]; simp [argsOk]; intro _ h; omega
        have HF := hide hf; clear hf
        have h0' : decide (x < 0) = false := by simpa using h0
        clear h0
        go_wp2_with (first | (refine wpList_load_row rfl 60 (.tmp 4) rfl w.heap.size rfl 60 T (0, 0) _ (heap_alloc_last w _) Try.underlying60 rfl HSZ.out ?_) | (refine wpList_store_new rfl 60 (.tmp 4) (.tmp 26) rfl w w.heap.size T T rfl rfl rfl rfl HSZ.out rfl HA.out ?_))
        refine bodyPost_ret (v := .tuple #[.agg T, .bool false]) (results_cell_tmp Try.results28 _ _ rfl HLV.out) rfl (HRES.out false HF.out (HCL.out _ (fun h => by cases h)))
      obtain ⟨j, rfl⟩ := Int.eq_ofNat_of_zero_le (show 0 ≤ x by omega)
      have hj : j < 64 := by omega
      have hc' := HX.out j hj
      have h0' : decide ((j : Int) < 0) = false := by simp
      have h1' : decide ((j : Int) ≥ regs) = false := by simp; omega
      have h2 : (j : Int) < 64 := by omega
      by_cases hp : hasI j pre = true
      · have hf : argsOk regs [] xs = false := by rw [HR.out, HD.out]; simp [argsOk, hp]
        have HF := hide hf; clear hf
        rw [hp] at hc'
        have HP := hide hp; clear hp h0
        go_wp2_with (first | (refine wpList_load_row rfl 60 (.tmp 4) rfl w.heap.size rfl 60 T (0, 0) _ (heap_alloc_last w _) Try.underlying60 rfl HSZ.out ?_) | (refine wpList_store_new rfl 60 (.tmp 4) (.tmp 26) rfl w w.heap.size T T rfl rfl rfl rfl HSZ.out rfl HA.out ?_))
        refine bodyPost_ret (v := .tuple #[.agg T, .bool false]) (results_cell_tmp Try.results28 _ _ rfl HLV.out) rfl (HRES.out false HF.out (HCL.out _ (fun h => by cases h)))
      · have hp' : hasI j pre = false := by simpa using hp
        rw [hp'] at hc'
        have HP := hide hp'; clear hp hp' h0
        go_wp2
        go_roundw
        case rel =>
          refine ⟨k + 1, T.setIfInBounds j (.bool true), (j : Int) :: pre, by omega, by go_num, rfl, by simp [HT.out], fun i hi => ?_, ?_, fun v => ?_⟩
          · rw [Array.getElem?_setIfInBounds]
            by_cases e : j = i
            · subst e; rw [if_pos rfl, if_pos (by rw [HT.out]; omega)]; simp [hasI]
            · rw [if_neg e, HX.out i hi]
              have : ((j : Int) == (i : Int)) = false := by rw [beq_eq_false_iff_ne]; omega
              simp [hasI, this]
          · rw [HR.out, HD.out]
            have : (j : Int) < regs := by omega
            simp [argsOk, HP.out, this]
          · rw [TK.out, List.mem_cons, List.mem_append, List.mem_singleton, HPRE.out v]; exact or_comm
        case measure => simp [intOf]; omega
    · have hf : argsOk regs [] xs = true := by rw [HR.out, drop_end HL.out hlt]; rfl
      have HF := hide hf; clear hf
      go_wp2_with (first | (refine wpList_load_row rfl 60 (.tmp 4) rfl w.heap.size rfl 60 T (0, 0) _ (heap_alloc_last w _) Try.underlying60 rfl HSZ.out ?_) | (refine wpList_store_new rfl 60 (.tmp 4) (.tmp 30) rfl w w.heap.size T T rfl rfl rfl rfl HSZ.out rfl HA.out ?_))
      refine bodyPost_ret (v := .tuple #[.agg T, .bool true]) (results_cell_tmp Try.results28 _ _ rfl HLV.out) rfl (HRES.out true HF.out (HCL.out _ (fun _ j hj => by rw [HX.out j hj, hasI_mem (l := pre) (m := xs) (fun v => by rw [HPRE.out v, take_end HL.out hlt])])))

end Go.Proofs.Ytbppamjogdjfkaa
set_option linter.unusedSimpArgs false
set_option linter.unusedVariables false
namespace Go.Proofs.Ytbppamjogdjfkaa
open Go.RowKit
/-- The registers below n that are not among xs, in order. -/
def lostTo (n : Nat) (xs : List Int) : List Int := ((List.range n).filter fun j : Nat => !hasI (j : Int) xs).map fun j : Nat => (j : Int)
def lostM (m : Machine) : List Int := if rightM m then lostTo m.regs.toNat m.saved else []
theorem lostTo_succ (k : Nat) (xs : List Int) : lostTo (k + 1) xs = lostTo k xs ++ (if hasI k xs then [] else [(k : Int)]) := by
  unfold lostTo
  rw [List.range_succ, List.filter_append, List.map_append]
  by_cases h : hasI k xs = true
  · simp [h]
  · simp [h]
theorem lostTo_len (k : Nat) (xs : List Int) : (lostTo k xs).length ≤ k := by
  unfold lostTo
  rw [List.length_map]
  exact Nat.le_trans (List.length_filter_le _ _) (by simp)
theorem lostTo_all (n : Nat) (xs : List Int) (h : ∀ k, k < n → hasI k xs = false) : ∀ k ≤ n, lostTo k xs = (List.range k).map fun j : Nat => (j : Int) := by
  intro k hk
  unfold lostTo
  rw [List.filter_eq_self.2 fun j hj => by rw [h j (by have := List.mem_range.1 hj; omega)]; rfl]
theorem lostTo_mem {n : Nat} {xs : List Int} {v : Int} : v ∈ lostTo n xs ↔ 0 ≤ v ∧ v < n ∧ hasI v xs = false := by
  unfold lostTo
  rw [List.mem_map]
  constructor
  · rintro ⟨j, hj, rfl⟩
    obtain ⟨h1, h2⟩ := List.mem_filter.1 hj
    exact ⟨by omega, by have := List.mem_range.1 h1; omega, by simpa using h2⟩
  · rintro ⟨h0, h1, h2⟩
    obtain ⟨j, rfl⟩ := Int.eq_ofNat_of_zero_le h0
    exact ⟨j, List.mem_filter.2 ⟨List.mem_range.2 (by omega), by simpa using h2⟩, rfl⟩
end Go.Proofs.Ytbppamjogdjfkaa
