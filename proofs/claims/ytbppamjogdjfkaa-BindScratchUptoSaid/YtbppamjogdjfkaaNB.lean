/- Walk: mach.Lost. Equality of arrays of bools. Walk: mach.Lost, whole. law05: walks: is a register saved. (As in law09's texts, without what they lean on.) -/
import Derived.Test.YtbppamjogdjfkaaN7
import Derived.Test.YtbppamjogdjfkaaNA
import Derived.Test.YtbppamjogdjfkaaBase
import Derived.ChangeKeysEq
import Derived.Test.YtbppamjogdjfkaaN6
import Derived.Test.YtbppamjogdjfkaaN8
set_option linter.unusedSimpArgs false
set_option linter.unusedVariables false
namespace Go.Proofs.Ytbppamjogdjfkaa
open Go.RowKit
theorem lostM_no {m : Machine} (h : rightM m = false) : lostM m = [] := by unfold lostM; rw [h]; rfl
theorem rightM_parts {m : Machine} (h : rightM m = true) : 1 ≤ m.regs ∧ m.regs ≤ 64 ∧ argsOk m.regs [] m.saved = true := by
  rw [← rightP_eq] at h
  simp only [rightP, Bool.and_eq_true, decide_eq_true_eq] at h
  obtain ⟨⟨⟨⟨⟨a1, a2⟩, a3⟩, a4⟩, a5⟩, a6, a7⟩ := h
  refine ⟨a1, a2, ?_⟩
  rw [argsOk_iff] at a7 ⊢
  obtain ⟨b1, b2⟩ := a7
  exact ⟨by first | exact fun x hx => ⟨(b1 x (.inr hx)).1, (b1 x (.inr hx)).2.1, by simp⟩ | exact fun x hx => ⟨(b1 x (List.mem_cons_of_mem _ hx)).1, (b1 x (List.mem_cons_of_mem _ hx)).2.1, by simp⟩, (List.nodup_cons.1 b2).2⟩
set_option maxHeartbeats 4000000 in
set_option maxRecDepth 8000 in
theorem lost_any (w : World) (S1 S2 : Nat → Prop) (m : Machine) (A1 A2 : Option Addr) (n1 c1 n2 c2 : Nat) (h1 : Sl w S1 A1 n1 c1 m.args) (h2 : Sl w S2 A2 n2 c2 m.saved) (hi : InI m.ret) (hR : rightM m = false) :
    Calls Try.prog 38 #[.agg #[.int .i64 m.regs, .slice A1 n1 c1, .int .i64 m.ret, .slice A2 n2 c2]] w (RetO 3 (lostM m) w) := by
  have H1 := hide h1; have H2 := hide h2; have HI := hide hi; have HR := hide hR
  clear h1 h2 hi hR
  go_enter Try.func38, Try.ntmps38
  go_wp2_with (go_at_call 15; refine (rightm_eq _ S1 S2 m A1 A2 n1 c1 n2 c2 (by repeat (first | assumption | exact Hd.out (by assumption) | apply Sl.alloc | apply Sl.ext | apply Sl.drew | apply Sl.drewN)) (by repeat (first | assumption | exact Hd.out (by assumption) | apply Sl.alloc | apply Sl.ext | apply Sl.drew | apply Sl.drewN)) HI.out HR.out).mono ?_; rintro e _ ⟨rfl, ux, rfl⟩)
  go_ret
  rw [lostM_no HR.out]
  exact RetO.mk_ (OwnL.nil_ _ _ _ (fun _ => False)) (fun _ h => h.elim) (by repeat (first | exact Below.refl _ _ | assumption | refine Below.alloc ?_ (by simp [size_ext]; try omega) _ | refine Below.ext ?_ (by simp [size_ext]; try omega) _ | refine Below.drew ?_ | refine Below.setCell ?_ (by simp [size_ext]; try omega) _))
end Go.Proofs.Ytbppamjogdjfkaa
set_option linter.unusedSimpArgs false
set_option linter.unusedVariables false
namespace Go.Proofs.Ytbppamjogdjfkaa
open Go.RowKit
theorem run_equalIn_bools {P : Program} (w : World) (d : Nat) (t e : TypeId) (len : Nat) (i : TypeInfo) (ht : P.underlying t = some (.array len e)) (he : P.underlying e = some .bool) (hp : P.plainKey e = true) (hi : P.info? e = some i) (hc : P.cellsOf e = 1)
    (f g : Nat → Bool) (xs ys : Array Value) (hx : ∀ j, j < len → xs[j]? = some (.bool (f j))) (hy : ∀ j, j < len → ys[j]? = some (.bool (g j))) :
    (Op.equalIn (d + 2) t (.agg xs) (.agg ys)).run P w = .ok ((List.range' 0 len 1).all fun j => f j == g j) w := by
  rw [Op.equalIn]
  simp only [Sem.run_bind, run_underlying ht, Result.andThen_ok, run_sizeOf w hi, hc, Std.Legacy.Range.forIn_eq_forIn_range', Std.Legacy.Range.size, Nat.sub_zero, Nat.add_sub_cancel, Nat.div_one, Nat.mul_one]
  have hl : ∀ j ∈ List.range' 0 len 1, j < len := fun j hj => by have := List.mem_range'.1 hj; omega
  generalize List.range' 0 len 1 = l at hl ⊢
  induction l with
  | nil => simp
  | cons a l ih =>
    have ha := hl a (by simp)
    have hb := run_equalIn_bool' (P := P) w d e (f a) (g a) he
    simp only [List.forIn_cons, Sem.run_bind, run_part_plain w hp (hx a ha), run_part_plain w hp (hy a ha), Result.andThen_ok, hb]
    cases hfg : (f a == g a)
    · simp [hfg]
    · simp only [Bool.not_true, Bool.false_eq_true, if_false, Sem.run_pure, Result.andThen_ok, List.all_cons, hfg, Bool.true_and]
      exact ih fun j hj => hl j (List.mem_cons_of_mem _ hj)
end Go.Proofs.Ytbppamjogdjfkaa
set_option linter.unusedSimpArgs false
set_option linter.unusedVariables false
namespace Go.Proofs.Ytbppamjogdjfkaa
open Go.RowKit
/-- A set's cells. -/
def setV (xs : List Int) : Array Value := ((List.range 64).map fun j : Nat => Value.bool (hasI (j : Int) xs)).toArray
theorem setV_size (xs : List Int) : (setV xs).size = 64 := by simp [setV]
theorem setV_at (xs : List Int) {j : Nat} (h : j < 64) : (setV xs)[j]? = some (.bool (hasI j xs)) := by
  simp [setV, List.getElem?_range h]
theorem setV_one (xs : List Int) : (setV xs).all (·.oneCell') = true := by
  rw [Array.all_eq_true]
  intro i hi
  have hb := setV_at xs (j := i) (by rw [setV_size] at hi; exact hi)
  rw [Array.getElem?_eq_getElem hi] at hb
  rw [Option.some.inj hb]; rfl
theorem eq_setV {T : Array Value} {xs : List Int} (h : T.size = 64) (hx : ∀ j : Nat, j < 64 → T[j]? = some (.bool (hasI j xs))) : T = setV xs := by
  apply Array.ext_getElem?
  intro j
  by_cases hj : j < 64
  · rw [hx j hj, setV_at xs hj]
  · rw [Array.getElem?_eq_none (by omega), Array.getElem?_eq_none (by rw [setV_size]; omega)]
def noneIn (xs : List Int) : Bool := (List.range' 0 64 1).all fun j : Nat => hasI (j : Int) xs == false
theorem falses_at {j : Nat} (h : j < 64) : (Array.replicate 64 (Value.bool false))[j]? = some (.bool false) := by simp [h]
theorem eq_set_run (xs : List Int) : ∃ bb, bb = noneIn xs ∧ ∀ w : World, (Op.equalIn 10000 60 (.agg (setV xs)) (.agg #[.bool false, .bool false, .bool false, .bool false, .bool false, .bool false, .bool false, .bool false, .bool false, .bool false, .bool false, .bool false, .bool false, .bool false, .bool false, .bool false, .bool false, .bool false, .bool false, .bool false, .bool false, .bool false, .bool false, .bool false, .bool false, .bool false, .bool false, .bool false, .bool false, .bool false, .bool false, .bool false, .bool false, .bool false, .bool false, .bool false, .bool false, .bool false, .bool false, .bool false, .bool false, .bool false, .bool false, .bool false, .bool false, .bool false, .bool false, .bool false, .bool false, .bool false, .bool false, .bool false, .bool false, .bool false, .bool false, .bool false, .bool false, .bool false, .bool false, .bool false, .bool false, .bool false, .bool false, .bool false])).run Try.prog w = .ok bb w := by
  obtain ⟨i, hi⟩ : ∃ i, Try.prog.info? 4 = some i := Option.isSome_iff_exists.1 (by kernel_rfl)
  exact ⟨_, rfl, fun w => by
    have e : (#[.bool false, .bool false, .bool false, .bool false, .bool false, .bool false, .bool false, .bool false, .bool false, .bool false, .bool false, .bool false, .bool false, .bool false, .bool false, .bool false, .bool false, .bool false, .bool false, .bool false, .bool false, .bool false, .bool false, .bool false, .bool false, .bool false, .bool false, .bool false, .bool false, .bool false, .bool false, .bool false, .bool false, .bool false, .bool false, .bool false, .bool false, .bool false, .bool false, .bool false, .bool false, .bool false, .bool false, .bool false, .bool false, .bool false, .bool false, .bool false, .bool false, .bool false, .bool false, .bool false, .bool false, .bool false, .bool false, .bool false, .bool false, .bool false, .bool false, .bool false, .bool false, .bool false, .bool false, .bool false] : Array Value) = Array.replicate 64 (.bool false) := rfl
    rw [e]
    exact run_equalIn_bools w 9998 60 4 64 i Try.underlying60 Try.underlying4 (by kernel_rfl) hi (by kernel_rfl) (fun j => hasI (j : Int) xs) (fun _ => false) _ _ (fun j h => setV_at xs h) (fun j h => falses_at h)⟩
theorem noneIn_iff {xs : List Int} (h : noneIn xs = true) : ∀ k : Nat, k < 64 → hasI (k : Int) xs = false := by
  intro k hk
  unfold noneIn at h
  have := List.all_eq_true.1 h (k : Nat) (List.mem_range'_1.2 ⟨Nat.zero_le _, by omega⟩)
  simpa using this
theorem lostM_yes {m : Machine} (h : rightM m = true) : lostM m = lostTo m.regs.toNat m.saved := by unfold lostM; rw [h]; rfl
set_option maxHeartbeats 4000000 in
set_option maxRecDepth 8000 in
theorem lost_yes (w : World) (S1 S2 : Nat → Prop) (m : Machine) (A1 A2 : Option Addr) (n1 c1 n2 c2 : Nat) (h1 : Sl w S1 A1 n1 c1 m.args) (h2 : Sl w S2 A2 n2 c2 m.saved) (hi : InI m.ret) (hR : rightM m = true) :
    Calls Try.prog 38 #[.agg #[.int .i64 m.regs, .slice A1 n1 c1, .int .i64 m.ret, .slice A2 n2 c2]] w (RetO 3 (lostM m) w) := by
  have H1 := hide h1; have H2 := hide h2; have HI := hide hi; have HR := hide hR
  obtain ⟨q1, q2, q3⟩ := rightM_parts hR
  have Q3 := hide q3
  clear h1 h2 hi hR q3
  obtain ⟨R, hRR⟩ : ∃ R : Nat, m.regs = (R : Int) := Int.eq_ofNat_of_zero_le (by omega)
  have HRT := hide (show lostM m = lostTo R m.saved by rw [lostM_yes HR.out, hRR]; rfl)
  have HRM := hide (show rightM m = true from HR.out)
  obtain ⟨i0, hi, hz, hz1, hz2⟩ := info_parts info_int
  have HI0 := hide hi; have HZ := hide hz; have HZ1 := hide hz1; have HZ2 := hide hz2
  clear hi hz hz1 hz2
  have HSZ := hide (show (Try.prog.info? 60).map (·.size) = some (setV m.saved).size by rw [setV_size]; exact size_set)
  obtain ⟨bb, hbb, EQ⟩ := eq_set_run m.saved
  have HBB := hide hbb; clear hbb
  have GT : Try.prog.eqGuardType Try.prog.depth 60 = false := by kernel_rfl
  have HQ3 : argsOk R [] m.saved = true := by rw [← hRR]; exact Q3.out
  have q2' : (R : Int) ≤ 64 := by omega
  have q1' : 1 ≤ R := by omega
  rw [hRR]
  have HRE := hide (show ∀ (w : World), Calls Try.prog 15 #[.agg #[.int .i64 (R : Int), .slice A1 n1 c1, .int .i64 m.ret, .slice A2 n2 c2]] w (fun e w' => Sl w S1 A1 n1 c1 m.args → Sl w S2 A2 n2 c2 m.saved → RetX (.bool true) w e w') → True from fun _ _ => trivial)
  clear HRE
  have RE : ∀ (w : World), Sl w S1 A1 n1 c1 m.args → Sl w S2 A2 n2 c2 m.saved → Calls Try.prog 15 #[.agg #[.int .i64 (R : Int), .slice A1 n1 c1, .int .i64 m.ret, .slice A2 n2 c2]] w (RetX (.bool true) w) := fun w h1 h2 => by
    rw [← hRR]; exact rightm_eq w S1 S2 m A1 A2 n1 c1 n2 c2 h1 h2 HI.out HR.out
  have HRE := hide RE
  have HQ3' := hide HQ3
  clear RE HQ3 q1 q2 hRR
  obtain ⟨B, hB⟩ : ∃ B, B = w.heap.size := ⟨_, rfl⟩
  have HB := hide hB
  have hB1 : B ≤ w.heap.size := by omega
  have hB2 : w.heap.size ≤ B := by omega
  clear hB
  go_enter Try.func38, Try.ntmps38
  go_wp2_with (first
    | (go_at_call 15; refine (HRE.out _ (by repeat (first | assumption | exact Hd.out (by assumption) | apply Sl.alloc | apply Sl.ext | apply Sl.drew | apply Sl.drewN)) (by repeat (first | assumption | exact Hd.out (by assumption) | apply Sl.alloc | apply Sl.ext | apply Sl.drew | apply Sl.drewN))).mono ?_; rintro e _ ⟨rfl, ux, rfl⟩)
    | (go_at_call 28; refine (of2_any _ S2 A2 n2 c2 R m.saved (by repeat (first | assumption | exact Hd.out (by assumption) | apply Sl.alloc | apply Sl.ext | apply Sl.drew | apply Sl.drewN)) q2').mono ?_; rintro e _ ⟨T1, rfl, hT1, hX1, u1, rfl⟩; obtain rfl := eq_setV hT1.1 (hX1 HQ3'.out); clear hT1 hX1)
    | (refine wpList_store_new rfl 60 (.tmp 3) (.tmp 17) rfl (((w.alloc (.cells #[.int .i64 R, .slice A1 n1 c1, .int .i64 m.ret, .slice A2 n2 c2] 24)).ext ux).ext u1) _ _ (setV m.saved) rfl rfl ?e1 rfl ?e2 ?e3 (setV_one _) ?_; rotate_left 3)
    | (refine wpList_load_row rfl 60 (.tmp 3) rfl (w.heap.size + 1 + ux.blocks.size + u1.blocks.size) rfl 60 (setV m.saved) (0, 0) _ (by rw [show w.heap.size + 1 + ux.blocks.size + u1.blocks.size = (((w.alloc (.cells #[.int .i64 R, .slice A1 n1 c1, .int .i64 m.ret, .slice A2 n2 c2] 24)).ext ux).ext u1).heap.size from by simp only [size_ext, World.size_alloc]]; exact heap_alloc_last _ _) Try.underlying60 rfl HSZ.out ?_))
  · obtain ⟨W, hW⟩ : ∃ W, W = ((((w.alloc (.cells #[.int .i64 R, .slice A1 n1 c1, .int .i64 m.ret, .slice A2 n2 c2] 24)).ext ux).ext u1).alloc (.cells (setV m.saved) 60)) := ⟨_, rfl⟩
    have HBel := hide (show Below B w W by subst hW; exact (show Below w.heap.size w _ from (by repeat (first | exact Below.refl _ _ | assumption | refine Below.alloc ?_ (by simp [size_ext]; try omega) _ | refine Below.ext ?_ (by simp [size_ext]; try omega) _ | refine Below.drew ?_ | refine Below.setCell ?_ (by simp [size_ext]; try omega) _))).mono hB1)
    have hWs : B ≤ W.heap.size := Nat.le_trans hB1 HBel.out.size
    rw [← hW]
    have bbt : bb = true := by assumption
    have HN := hide (noneIn_iff (HBB.out ▸ bbt))
    clear hW EQ
    subst bbt
    go_loopw [2, 24] (fun o i wr => ∃ k : Nat, k ≤ R ∧ i = .int .i64 k ∧ OwnL wr B 3 (fun _ => False) o (lostTo k m.saved) ∧ Below B w wr ∧ B ≤ wr.heap.size) (fun _ i _ => R - (intOf i).toNat)
    case atStart => exact ⟨0, Nat.zero_le _, rfl, OwnL.nil_ _ _ _ _, HBel.out, hWs⟩
    case round =>
      obtain ⟨k, hk, rfl, hown, hbel, hsz⟩ := hrel
      have HO := hide hown; clear hown
      have HBe := hide hbel; clear hbel
      by_cases hlt : k < R
      · have HL := hide (lostTo_len k m.saved)
        go_wp2_with (at_builtin; refine wpList_push (α := Int) wr [.int .i64 k] 3 rfl (.tmp 27) (.tmp 29) 22 rfl B 3 i0 _ 8 Try.underlying22 HI0.out HZ.out HZ1.out HZ2.out rfl (by decide) (fun _ => False) (fun _ => False) u2 _ (k : Int) rfl HO.out _ rfl rfl ⟨rfl, (by unfold InI; omega)⟩ (fun _ h => h) (fun _ _ h => h) (fun _ h => h.elim) (by have := HL.out; omega) (by have := HL.out; omega) hsz ?_; intro v' w1 hown' hg _)
        have HO' := hide hown'; have HG := hide hg
        clear hown' hg
        go_wp2
        go_roundw
        case rel =>
          have hb1 := below_push HBe.out HO.out hsz HG.out
          exact ⟨k + 1, by omega, by go_num, by rw [lostTo_succ, HN.out k (by omega)]; exact HO'.out, hb1, Nat.le_trans hB1 hb1.size⟩
        case measure => simp [intOf]; omega
      · go_wp2
        go_ret
        have ho := HO.out
        have e := HB.out
        subst e
        obtain rfl : k = R := by omega
        rw [HRT.out]
        exact RetO.mk_ ho (fun _ h => h.elim) HBe.out
  · obtain ⟨W, hW⟩ : ∃ W, W = ((((w.alloc (.cells #[.int .i64 R, .slice A1 n1 c1, .int .i64 m.ret, .slice A2 n2 c2] 24)).ext ux).ext u1).alloc (.cells (setV m.saved) 60)) := ⟨_, rfl⟩
    have HBel := hide (show Below B w W by subst hW; exact (show Below w.heap.size w _ from (by repeat (first | exact Below.refl _ _ | assumption | refine Below.alloc ?_ (by simp [size_ext]; try omega) _ | refine Below.ext ?_ (by simp [size_ext]; try omega) _ | refine Below.drew ?_ | refine Below.setCell ?_ (by simp [size_ext]; try omega) _))).mono hB1)
    have hWs : B ≤ W.heap.size := Nat.le_trans hB1 HBel.out.size
    obtain ⟨G, hG⟩ : ∃ G, G = w.heap.size + 1 + ux.blocks.size + u1.blocks.size := ⟨_, rfl⟩
    have HC := hide (show ∀ j : Nat, j < 64 → W.cell? ⟨G, j, none⟩ = some (.bool (hasI j m.saved)) by
      intro j hj
      subst hW
      have e : G = (((w.alloc (.cells #[.int .i64 R, .slice A1 n1 c1, .int .i64 m.ret, .slice A2 n2 c2] 24)).ext ux).ext u1).heap.size := by rw [hG]; simp [size_ext]
      rw [e, World.cell?_alloc_new]
      exact setV_at _ hj)
    have hGW : G < W.heap.size := by subst hW; rw [hG]; simp [size_ext]
    have hGB : B ≤ G := by omega
    rw [← hW]
    simp only [← hG]
    have bbt : bb = false := by assumption
    clear hW hG EQ
    subst bbt
    go_loopw [2, 37] (fun o i wr => ∃ k : Nat, k ≤ R ∧ i = .int .i64 k ∧ OwnL wr B 3 (fun _ => False) o (lostTo k m.saved) ∧ Below B w wr ∧ B ≤ wr.heap.size ∧ (∀ j : Nat, j < 64 → wr.cell? ⟨G, j, none⟩ = some (.bool (hasI j m.saved))) ∧ o.ownBlock ≠ some G ∧ G < wr.heap.size) (fun _ i _ => R - (intOf i).toNat)
    case atStart => exact ⟨0, Nat.zero_le _, rfl, OwnL.nil_ _ _ _ _, HBel.out, hWs, HC.out, by simp [Value.ownBlock], hGW⟩
    case round =>
      obtain ⟨k, hk, rfl, hown, hbel, hsz, hcells, hne, hGl⟩ := hrel
      have HO := hide hown; clear hown
      have HBe := hide hbel; clear hbel
      have HCk := hide hcells; have HNE := hide hne
      clear hne
      by_cases hlt : k < R
      · have HL := hide (lostTo_len k m.saved)
        have hck := hcells k (by omega)
        clear hcells
        have hk64 : (k : Int) < R := by omega
        by_cases hf : hasI k m.saved = true
        · rw [hf] at hck
          have HF := hide hf
          clear hf
          go_wp2
          go_roundw
          case rel => exact ⟨k + 1, by omega, by go_num, by rw [lostTo_succ, HF.out]; simpa using HO.out, HBe.out, hsz, HCk.out, HNE.out, hGl⟩
          case measure => simp [intOf]; omega
        · have hf : hasI k m.saved = false := by simpa using hf
          rw [hf] at hck
          have HF := hide hf
          clear hf
          go_wp2_with (at_builtin; refine wpList_push (α := Int) wr [.int .i64 k] 3 rfl (.tmp 44) (.tmp 46) 22 rfl B 3 i0 _ 8 Try.underlying22 HI0.out HZ.out HZ1.out HZ2.out rfl (by decide) (fun _ => False) (fun _ => False) u2 _ (k : Int) rfl HO.out _ rfl rfl ⟨rfl, (by unfold InI; omega)⟩ (fun _ h => h) (fun _ _ h => h) (fun _ h => h.elim) (by have := HL.out; omega) (by have := HL.out; omega) hsz ?_; intro v' w1 hown' hg hv')
          have HO' := hide hown'; have HG := hide hg; have HV := hide hv'
          clear hown' hg hv'
          go_wp2
          go_roundw
          case rel =>
            have hb1 := below_push HBe.out HO.out hsz HG.out
            exact ⟨k + 1, by omega, by go_num, by rw [lostTo_succ, HF.out]; exact HO'.out, hb1, Nat.le_trans hB1 hb1.size, fun j hj =>
              (World.cell?_of_block (HG.out.block G (by simp; omega) (fun e => HNE.out e.symm))).trans ((World.cell?_of_block (Below.heap_alloc _ _ G hGl)).trans (HCk.out j hj)), fun e => by
              rcases HV.out with h | h
              · exact HNE.out (h ▸ e)
              · rw [h] at e; injection e with e; omega, Nat.lt_of_lt_of_le hGl (by have := HG.out.size; simp at this; omega)⟩
          case measure => simp [intOf]; omega
      · clear hcells
        go_wp2
        go_ret
        have ho := HO.out
        have e := HB.out
        subst e
        obtain rfl : k = R := by omega
        rw [HRT.out]
        exact RetO.mk_ ho (fun _ h => h.elim) HBe.out
  · simp [size_ext]
  · exact HSZ.out
  · rw [setV_size]; rfl
theorem lostm_any (w : World) (S1 S2 : Nat → Prop) (m : Machine) (A1 A2 : Option Addr) (n1 c1 n2 c2 : Nat) (h1 : Sl w S1 A1 n1 c1 m.args) (h2 : Sl w S2 A2 n2 c2 m.saved) (hi : InI m.ret) :
    Calls Try.prog 38 #[.agg #[.int .i64 m.regs, .slice A1 n1 c1, .int .i64 m.ret, .slice A2 n2 c2]] w (RetO 3 (lostM m) w) := by
  cases hR : rightM m
  · exact lost_any w S1 S2 m A1 A2 n1 c1 n2 c2 h1 h2 hi hR
  · exact lost_yes w S1 S2 m A1 A2 n1 c1 n2 c2 h1 h2 hi hR
end Go.Proofs.Ytbppamjogdjfkaa
set_option linter.unusedSimpArgs false
set_option linter.unusedVariables false
namespace Go.Proofs.Ytbppamjogdjfkaa
open Go.RowKit
theorem index5_any (w : World) (S : Nat → Prop) (A : Option Addr) (n c : Nat) (xs : List Int) (v : Int) (h : Sl w S A n c xs) :
    Calls Try.prog 39 #[.slice A n c, .int .i64 v] w (Ret (.int .i64 (idxF (fun x => x == v) 0 xs)) w) := by
  have hn := h.nle
  have HL := hide h.len
  have HS := hide h
  clear h
  go_enter Try.func39, Try.ntmps39
  go_wp2
  go_loop [8] (fun i => ∃ k : Nat, k ≤ n ∧ i = .int .i64 k ∧ idxF (fun x => x == v) 0 xs = idxF (fun x => x == v) k (xs.drop k)) (fun i => n - (intOf i).toNat)
  case atStart => exact ⟨0, Nat.zero_le _, rfl, rfl⟩
  case round =>
    obtain ⟨k, hk, rfl, hr⟩ := hrel
    have HR := hide hr; clear hr
    by_cases hlt : k < n
    · obtain ⟨b, off, x, rfl, hb, hx, hxi, hc⟩ := at_int HS.out hlt
      have HX := hide (drop_at hx); clear hx
      by_cases hv : x = v
      · subst hv
        have e : (x == x) = true := by simp
        go_wp2
        go_ret
        exact Ret.i (by rw [HR.out, HX.out]; simp [idxF])
      · have e : (v == x) = false := by rw [beq_eq_false_iff_ne]; exact fun h => hv h.symm
        have HV := hide (show (x == v) = false by rw [beq_eq_false_iff_ne]; exact hv)
        clear hv
        go_wp2
        go_round
        case rel => exact ⟨k + 1, by omega, by go_num, by rw [HR.out, HX.out]; simp [idxF, HV.out]⟩
        case measure => simp [intOf]; omega
    · go_wp2
      go_ret
      exact Ret.i (by rw [HR.out, drop_end HL.out hlt]; rfl)
theorem anyF5_hasI (v : Int) : ∀ xs : List Int, anyF (fun x => x == v) xs = hasI v xs
  | [] => rfl
  | x :: l => by simp only [anyF, hasI, anyF5_hasI v l]
theorem idx5_ge (f : Int → Bool) : ∀ (xs : List Int) (k : Nat), decide (0 ≤ idxF f k xs) = anyF f xs
  | [], _ => rfl
  | x :: l, k => by
    unfold idxF anyF
    cases hf : f x
    · simp only [Bool.false_or]; exact idx5_ge f l (k + 1)
    · simp
theorem contains5_any (w : World) (S : Nat → Prop) (A : Option Addr) (n c : Nat) (xs : List Int) (v : Int) (h : Sl w S A n c xs) :
    Calls Try.prog 25 #[.slice A n c, .int .i64 v] w (Ret (.bool (hasI v xs)) w) := by
  go_enter Try.func25, Try.ntmps25
  go_wp2_with (go_at_call 39; refine (index5_any _ S A n c xs v h).mono ?_; rintro e w' ⟨rfl, rfl⟩)
  go_ret
  exact Ret.b (by rw [← anyF5_hasI, ← idx5_ge _ xs 0])
theorem isSaved5_any (w : World) (S2 : Nat → Prop) (m : Machine) (v1 : Value) (A2 : Option Addr) (n2 c2 : Nat) (h2 : Sl w S2 A2 n2 c2 m.saved) (r : Int) :
    Calls Try.prog 13 #[.agg #[.int .i64 m.regs, v1, .int .i64 m.ret, .slice A2 n2 c2], .int .i64 r] w (RetX (.bool (hasI r m.saved)) w) := by
  have HS := hide h2
  clear h2
  go_enter Try.func13, Try.ntmps13
  go_wp2_with (go_at_call 25; refine (contains5_any _ S2 A2 n2 c2 m.saved r (by repeat (first | assumption | exact Hd.out (by assumption) | apply Sl.alloc | apply Sl.ext | apply Sl.drew | apply Sl.drewN))).mono ?_; rintro e w' ⟨rfl, rfl⟩)
  go_ret
  exact RetX.b rfl (by repeat (first | exact Below.refl _ _ | assumption | refine Below.alloc ?_ (by simp [size_ext]; try omega) _ | refine Below.ext ?_ (by simp [size_ext]; try omega) _ | refine Below.drew ?_ | refine Below.setCell ?_ (by simp [size_ext]; try omega) _))
end Go.Proofs.Ytbppamjogdjfkaa
