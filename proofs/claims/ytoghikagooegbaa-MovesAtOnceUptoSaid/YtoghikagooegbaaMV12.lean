/- Walks: law 26: a machine of places. -/
import Derived.Test.YtoghikagooegbaaMV10
set_option linter.unusedSimpArgs false
set_option linter.unusedVariables false
namespace Go.Proofs.Ytoghikagooegbaa
open Go.RowKit Go.Maps

theorem start26_any (w : World) (p : Loc) (hp : InI p.n) (h : p.n ≤ 1000000) : Calls Try.prog 25 #[.agg #[.bool p.slot, .int .i64 p.n]] w (RetX (.int .i64 (if p.slot = true then 1000 + p.n else p.n)) w) := by
  obtain ⟨s, n⟩ := p
  have hw : IntKind.i64.wrap (1000 + n) = 1000 + n := IntWalk.i64_in _ (by unfold InI at hp; simp only at hp h; omega)
  go_enter Try.func25, Try.ntmps25
  cases s
  all_goals
    go_wp2_with fail
    go_ret
    exact RetX.i (by simp) (by repeat (first | exact Below.refl _ _ | assumption | refine Below.alloc ?_ (by simp [size_ext]; try omega) _ | refine Below.ext ?_ (by simp [size_ext]; try omega) _ | refine Below.drew ?_ | refine Below.setCell ?_ (by simp [size_ext]; try omega) _))
/-- A machine of places at block g: cell i holds f i (64 registers, then 400 slots). -/
structure MachAt (w : World) (g : Nat) (f : Nat → Int) : Prop where
  at_ : ∃ cur : Array Value, w.heap[g]? = some (.cells cur 59 (0, 0)) ∧ cur.size = 464 ∧ ∀ i, i < 464 → cur[i]? = some (.int .i64 (f i))
theorem MachAt.lt {w : World} {g : Nat} {f : Nat → Int} (h : MachAt w g f) : g < w.heap.size := by
  obtain ⟨cur, h1, _⟩ := h.at_
  exact (Array.getElem?_eq_some_iff.1 h1).1
theorem MachAt.keep {w w' : World} {g : Nat} {f : Nat → Int} (h : MachAt w g f) (hk : w'.heap[g]? = w.heap[g]?) : MachAt w' g f := by
  obtain ⟨cur, h1, h2⟩ := h.at_
  exact ⟨cur, hk.trans h1, h2⟩
theorem MachAt.ext {w : World} {g : Nat} {f : Nat → Int} (h : MachAt w g f) (u : Ext) : MachAt (w.ext u) g f := h.keep (ext_block w u g h.lt)
theorem MachAt.cell {w : World} {g : Nat} {f : Nat → Int} (h : MachAt w g f) {i : Nat} (hi : i < 464) : w.cell? ⟨g, i, none⟩ = some (.int .i64 (f i)) := by
  obtain ⟨cur, h1, h2, h3⟩ := h.at_
  simp only [World.cell?, h1, Option.isSome_none, Bool.false_eq_true, if_false]
  exact h3 i hi
theorem MachAt.frozen {w : World} {g : Nat} {f : Nat → Int} (h : MachAt w g f) (i : Nat) : w.frozen? ⟨g, i, none⟩ = false := by
  obtain ⟨cur, h1, _⟩ := h.at_
  simp [World.frozen?, h1]
def setN (f : Nat → Int) (i : Nat) (v : Int) : Nat → Int := fun j => if j = i then v else f j
theorem MachAt.set {w : World} {g : Nat} {f : Nat → Int} (h : MachAt w g f) {i : Nat} (hi : i < 464) (v : Int) : MachAt (w.setCell ⟨g, i, none⟩ (.int .i64 v)) g (setN f i v) := by
  obtain ⟨cur, h1, h2, h3⟩ := h.at_
  refine ⟨cur.setIfInBounds i (.int .i64 v), ?_, by simpa using h2, fun j hj => ?_⟩
  · show ((w.heap.modify g _)[g]?) = _
    rw [Array.getElem?_modify, if_pos rfl, h1]; rfl
  · unfold setN
    by_cases e : j = i
    · subst e; rw [if_pos rfl]; simp [h2, hj]
    · rw [if_neg e, Array.getElem?_setIfInBounds_ne (fun h => e h.symm)]; exact h3 j hj
theorem MachAt.zero {w : World} {g : Nat} (hg : g = w.heap.size) : MachAt (w.alloc (.cells Try.zeroCells59 59)) g (fun _ => 0) := by
  subst hg
  refine ⟨_, heap_alloc_new w _, by kernel_rfl, fun i hi => ?_⟩
  have hz : Try.zeroCells59 = Array.replicate 464 (Value.int .i64 0) := by kernel_rfl
  rw [hz]
  simp [hi]
def startF (i : Nat) : Int := if i < 64 then (i : Int) else 1000 + ((i : Int) - 64)
theorem grown_setCell (w : World) (g i : Nat) (v : Value) : w.grownBy (w.setCell ⟨g, i, none⟩ v) (some g) := setCells_grown g [v] i w
set_option maxRecDepth 100000 in
set_option maxHeartbeats 4000000 in
theorem fresh26_any (w : World) : Calls Try.prog 23 #[] w (fun e w' => ∃ g, e = .returned (.pointer (some ⟨g, 0, none⟩)) ∧ w.heap.size ≤ g ∧ MachAt w' g startF ∧ ∃ u : Ext, w' = w.ext u) := by
  obtain ⟨g, hg⟩ : ∃ g, w.heap.size = g := ⟨_, rfl⟩
  go_enter Try.func23, Try.ntmps23
  go_wp2_with fail
  obtain ⟨W0, hW0⟩ : ∃ W, w.alloc (.cells Try.zeroCells59 59) = W := ⟨_, rfl⟩
  have HM0 := hide (show MachAt W0 g (fun _ => 0) by rw [← hW0]; exact MachAt.zero hg.symm)
  have HB0 := hide (show Below w.heap.size w W0 by rw [← hW0]; exact (Below.refl _ _).alloc (Nat.le_refl _) _)
  have HG := hide hg
  rw [hW0]
  clear hW0 hg
  go_loopw [2] (fun i wr => ∃ k : Nat, k ≤ 64 ∧ i = .int .i64 k ∧ MachAt wr g (fun j => if j < k then (j : Int) else 0) ∧ Below w.heap.size w wr) (fun i _ => 64 - (intOf i).toNat)
  case atStart => exact ⟨0, Nat.zero_le _, rfl, by simpa using HM0.out, HB0.out⟩
  case round =>
    obtain ⟨k, hk, rfl, hmq, hbq⟩ := hrel
    have HMQ := hide hmq; have HBQ := hide hbq
    have hgl := hmq.lt
    clear hmq hbq
    by_cases hlt : k < 64
    · have hki : (k : Int) < 64 := by omega
      have hk0 : (0 : Int) ≤ k := by omega
      have HRG := hide (fun W => reg26_any W k)
      have HST := hide (fun W => show Calls Try.prog 25 #[.agg #[.bool false, .int .i64 k]] W (RetX (.int .i64 k) W) from start26_any W ⟨false, k⟩ (ini_ (k := (k : Int)) (by omega)) (by show (k : Int) ≤ 1000000; omega))
      go_wp2_with fail
      refine wp_region_last_ext [] [] 8 (by kernel_rfl) rfl rfl rfl (by kernel_rfl) (by kernel_rfl) ?_
      simp only [List.take_succ_cons, List.take_zero]
      repeat (refine flow_known (by kernel_rfl) (fun K hK => ?_); go_simp; (first | (refine hK _ ?_; clear hK K) | (apply Exists.intro; refine ⟨fun _ => ?_, hK _ ?_⟩; (first | (go_at_call 20; exact (HRG.out _)) | (go_at_call 25; exact (HST.out _))); clear hK K)))
      refine flow_done [] (by kernel_rfl) ?_
      intro u
      simp only [List.nil_append, List.cons_append, endH_f, endH_t, endH_nil]
      have HM1 := hide (HMQ.out.ext u)
      have HB1 := hide (HBQ.out.ext HBQ.out.size u)
      obtain ⟨W1, hW1⟩ : ∃ W, wr.ext u = W := ⟨_, rfl⟩
      rw [hW1] at HM1 HB1 ⊢
      clear hW1 HMQ HBQ HRG HST
      have d0 := HM1.out.cell (i := k) (by omega)
      have f0 := HM1.out.frozen k
      have HM2 := hide (show MachAt (W1.setCell ⟨g, k, none⟩ (.int .i64 k)) g (fun j => if j < k + 1 then (j : Int) else 0) by
        have h := HM1.out.set (i := k) (by omega) (k : Int)
        have e : setN (fun j => if j < k then (j : Int) else 0) k (k : Int) = fun j => if j < k + 1 then (j : Int) else 0 := by
          funext j; simp only [setN]
          by_cases h1 : j = k
          · subst h1; simp
          · by_cases h2 : j < k
            · rw [if_neg h1, if_pos h2, if_pos (by omega)]
            · rw [if_neg h1, if_neg h2, if_neg (by omega)]
        rwa [e] at h)
      have HB2 := hide (HB1.out.setCell (p := ⟨g, k, none⟩) (by have := HG.out; show w.heap.size ≤ g; omega) (.int .i64 k))
      go_simp
      go_wp2_with fail
      first
        | (go_roundw; case rel => exact ⟨k + 1, by omega, by go_num, HM2.out, HB2.out⟩; case measure => simp [intOf]; omega)
        | exact ⟨⟨k + 1, by omega, by go_num, HM2.out, HB2.out⟩, by simp [intOf]; omega⟩
    · have hkn : k = 64 := by omega
      rw [hkn] at HMQ
      have hki : decide ((k : Int) < 64) = false := by simp; omega
      clear hkn
      go_wp2_with fail
      go_loopw [3] (fun i wq => ∃ k : Nat, k ≤ 400 ∧ i = .int .i64 k ∧ MachAt wq g (fun j => if j < 64 + k then startF j else 0) ∧ Below w.heap.size w wq) (fun i _ => 400 - (intOf i).toNat)
      case atStart =>
        refine ⟨0, Nat.zero_le _, rfl, ?_, HBQ.out⟩
        have e : (fun j : Nat => if j < 64 then (j : Int) else 0) = fun j => if j < 64 + 0 then startF j else 0 := by
          funext j; unfold startF; by_cases h : j < 64 <;> simp [h]
        rw [← e]; exact HMQ.out
      clear HMQ HBQ
      case round =>
        obtain ⟨k2, hk, rfl, hmq, hbq⟩ := hrel
        clear hki
        have HMQ := hide hmq; have HBQ := hide hbq
        have hgl := hmq.lt
        clear hmq hbq
        by_cases hlt : k2 < 400
        · have hki : (k2 : Int) < 400 := by omega
          have hk0 : (0 : Int) ≤ k2 := by omega
          have HRG := hide (fun W => slot26_any W k2)
          have HST := hide (fun W => show Calls Try.prog 25 #[.agg #[.bool true, .int .i64 k2]] W (RetX (.int .i64 (1000 + k2)) W) from start26_any W ⟨true, k2⟩ (ini_ (k := (k2 : Int)) (by omega)) (by show (k2 : Int) ≤ 1000000; omega))
          go_wp2_with fail
          refine wp_region_last_ext [] [] 8 (by kernel_rfl) rfl rfl rfl (by kernel_rfl) (by kernel_rfl) ?_
          simp only [List.take_succ_cons, List.take_zero]
          repeat (refine flow_known (by kernel_rfl) (fun K hK => ?_); go_simp; (first | (refine hK _ ?_; clear hK K) | (apply Exists.intro; refine ⟨fun _ => ?_, hK _ ?_⟩; (first | (go_at_call 21; exact (HRG.out _)) | (go_at_call 25; exact (HST.out _))); clear hK K)))
          refine flow_done [] (by kernel_rfl) ?_
          intro u
          simp only [List.nil_append, List.cons_append, endH_f, endH_t, endH_nil]
          have HM1 := hide (HMQ.out.ext u)
          have HB1 := hide (HBQ.out.ext HBQ.out.size u)
          obtain ⟨W1, hW1⟩ : ∃ W, wr.ext u = W := ⟨_, rfl⟩
          rw [hW1] at HM1 HB1 ⊢
          clear hW1 HMQ HBQ HRG HST
          have d0 := HM1.out.cell (i := 64 + k2) (by omega)
          have f0 := HM1.out.frozen (64 + k2)
          have HM2 := hide (show MachAt (W1.setCell ⟨g, 64 + k2, none⟩ (.int .i64 (1000 + k2))) g (fun j => if j < 64 + (k2 + 1) then startF j else 0) by
            have h := HM1.out.set (i := 64 + k2) (by omega) (1000 + (k2 : Int))
            have e : setN (fun j => if j < 64 + k2 then startF j else 0) (64 + k2) (1000 + (k2 : Int)) = fun j => if j < 64 + (k2 + 1) then startF j else 0 := by
              funext j; simp only [setN]
              by_cases h1 : j = 64 + k2
              · subst h1; rw [if_pos rfl, if_pos (by omega)]; unfold startF; rw [if_neg (by omega)]; omega
              · by_cases h2 : j < 64 + k2
                · rw [if_neg h1, if_pos h2, if_pos (by omega)]
                · rw [if_neg h1, if_neg h2, if_neg (by omega)]
            rwa [e] at h)
          have HB2 := hide (HB1.out.setCell (p := ⟨g, 64 + k2, none⟩) (by have := HG.out; show w.heap.size ≤ g; omega) (.int .i64 (1000 + k2)))
          go_simp
          go_wp2_with fail
          first
            | (go_roundw; case rel => exact ⟨k2 + 1, by omega, by go_num, HM2.out, HB2.out⟩; case measure => simp [intOf]; omega)
            | exact ⟨⟨k2 + 1, by omega, by go_num, HM2.out, HB2.out⟩, by simp [intOf]; omega⟩
        · have hkn : k2 = 400 := by omega
          subst hkn
          go_wp2_with fail
          go_ret
          refine ⟨g, rfl, Nat.le_of_eq HG.out, ?_, Below.to_ext HBQ.out⟩
          obtain ⟨cur, h1, h2, h3⟩ := HMQ.out.at_
          exact ⟨cur, h1, h2, fun i hi => by have := h3 i hi; rwa [if_pos (by omega)] at this⟩
end Go.Proofs.Ytoghikagooegbaa
