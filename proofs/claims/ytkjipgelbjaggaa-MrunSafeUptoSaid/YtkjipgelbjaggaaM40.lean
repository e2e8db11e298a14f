/- Walk: a target is run. -/
import Derived.Test.YtkjipgelbjaggaaM39
set_option linter.unusedSimpArgs false
set_option linter.unusedVariables false
namespace Go.Proofs.Ytkjipgelbjaggaa
open Go.RowKit Go.Maps
structure ResS where
  fin : Int
  value : Int
  calls : List Call
  mem : List Int
  steps : Int
def resOf (r : RunS) : ResS := ⟨r.fin, r.value, r.calls, r.mem, r.steps⟩
def resNone : ResS := ⟨0, 0, [], [], 0⟩
def RetGo (x : ResS) (er : Int) (w : World) (e : Ending) (w' : World) : Prop :=
  ∃ Ac cc Am cm Sc, e = .returned (.tuple #[.agg #[.int .i64 x.fin, .int .i64 x.value, .slice Ac x.calls.length cc, .slice Am x.mem.length cm, .int .i64 x.steps], .int .i64 er]) ∧
    OwnL w' w.heap.size 93 Sc (.slice Ac x.calls.length cc) x.calls ∧ OwnL w' w.heap.size 3 (fun _ => False) (.slice Am x.mem.length cm) x.mem ∧ (∀ b, Sc b → w.heap.size ≤ b) ∧ ∃ u : Ext, w' = w.ext u
noncomputable def goX (m : Machine) (t : Target) (args mem answers first : List Int) (fuel : Int) : ResS :=
  if errR m t args mem ≠ 0 then resNone else if fuel > 20000 then resNone else resOf (runN fuel.toNat (startR m t args mem answers first))
def goE (m : Machine) (t : Target) (args mem : List Int) (fuel : Int) : Int := if errR m t args mem ≠ 0 then errR m t args mem else if fuel > 20000 then 3 else 0
theorem stepR_stop {r : RunS} (h : (stepR r).2 = false) : (stepR r).1 = r := by
  unfold stepR at *
  split
  · rfl
  · rename_i h1; rw [if_neg h1] at h; split at h <;> cases h
theorem runN_stop {r : RunS} {k : Nat} (h : (stepR (runN k r)).2 = false) : ∀ n, k ≤ n → runN n r = runN k r := by
  intro n hn
  induction n with
  | zero => obtain rfl : k = 0 := by omega
            rfl
  | succ n ih =>
    by_cases e : k = n + 1
    · rw [e]
    · have := ih (by omega)
      show (stepR (runN n r)).1 = _
      rw [this, stepR_stop h]
/-- five cells of a block are written -/
def set5 (w : World) (R : Nat) (a0 a1 a2 a3 a4 : Value) : World := ((((w.setCell ⟨R, 0, none⟩ a0).setCell ⟨R, 1, none⟩ a1).setCell ⟨R, 2, none⟩ a2).setCell ⟨R, 3, none⟩ a3).setCell ⟨R, 4, none⟩ a4
theorem set5_ext (w : World) (u : Ext) (R : Nat) (a0 a1 a2 a3 a4 : Value) (h : R < w.heap.size) : (set5 w R a0 a1 a2 a3 a4).ext u = set5 (w.ext u) R a0 a1 a2 a3 a4 := by
  unfold set5
  rw [setCell_ext w u ⟨R, 0, none⟩ a0 h, setCell_ext _ u ⟨R, 1, none⟩ a1 (by simpa using h), setCell_ext _ u ⟨R, 2, none⟩ a2 (by simpa using h), setCell_ext _ u ⟨R, 3, none⟩ a3 (by simpa using h), setCell_ext _ u ⟨R, 4, none⟩ a4 (by simpa using h)]
theorem set5_block (w : World) (R : Nat) (a0 a1 a2 a3 a4 : Value) {b : Nat} (hb : b ≠ R) : (set5 w R a0 a1 a2 a3 a4).heap[b]? = w.heap[b]? := by
  unfold set5
  rw [Below.heap_setCell _ _ _ _ hb, Below.heap_setCell _ _ _ _ hb, Below.heap_setCell _ _ _ _ hb, Below.heap_setCell _ _ _ _ hb, Below.heap_setCell _ _ _ _ hb]
theorem set5_size (w : World) (R : Nat) (a0 a1 a2 a3 a4 : Value) : (set5 w R a0 a1 a2 a3 a4).heap.size = w.heap.size := by unfold set5; simp
theorem Below.set5 {B R : Nat} {w w' : World} (h : Below B w w') (hR : B ≤ R) (a0 a1 a2 a3 a4 : Value) : Below B w (set5 w' R a0 a1 a2 a3 a4) := by
  unfold Go.Proofs.Ytkjipgelbjaggaa.set5
  exact ((((h.setCell hR _).setCell hR _).setCell hR _).setCell hR _).setCell hR _
theorem OwnL.set5 {α : Type} [Rep α] {w : World} {B R : Nat} {T : TypeId} {S : Nat → Prop} {v : Value} {xs : List α} (h : OwnL w B T S v xs) (hR : R < B) (hS : ∀ b, S b → B ≤ b) (a0 a1 a2 a3 a4 : Value) : OwnL (set5 w R a0 a1 a2 a3 a4) B T S v xs :=
  h.keep (by rw [set5_size]; exact Nat.le_refl _) (fun b hb _ => set5_block _ _ _ _ _ _ _ (by have := hS b hb; omega)) (fun g hg => set5_block _ _ _ _ _ _ _ (by have := (h.below_ g hg).1; omega))
section
variable (w : World) (S1 S2 S3 S4 S5 S6 S7 : Nat → Prop) (m : Machine) (A1 A2 : Option Addr) (n1 c1 n2 c2 : Nat) (h1 : Sl w S1 A1 n1 c1 m.args) (h2 : Sl w S2 A2 n2 c2 m.saved) (hi : InI m.ret) (t : Target) (A : Option Addr) (n c : Nat) (h : Sl w S3 A n c t.blocks)
    (A3 A4 A5 A6 : Option Addr) (n3 c3 n4 c4 n5 c5 n6 c6 : Nat) (args mem answers first : List Int) (h3 : Sl w S4 A3 n3 c3 args) (h4 : Sl w S5 A4 n4 c4 mem) (h5 : Sl w S6 A5 n5 c5 answers) (h6 : Sl w S7 A6 n6 c6 first)
    (hm1 : n1 ≤ 1048576) (hm2 : n2 ≤ 1048576) (hm : n ≤ 1048576) (hms : ∀ b ∈ t.blocks, b.ins.length ≤ 1048576) (hm4 : n4 ≤ 1048576) (hm5 : n5 ≤ 1048576) (fuel : Int) (hf : InI fuel)
include h1 h2 hi h h3 h4 h5 h6 hm1 hm2 hm hms hm4 hm5 hf
set_option maxHeartbeats 4000000 in
set_option maxRecDepth 100000 in
theorem go9_any : Calls Try.prog 11 #[.agg #[.int .i64 m.regs, .slice A1 n1 c1, .int .i64 m.ret, .slice A2 n2 c2], .agg #[.int .i64 t.frame, .slice A n c], .slice A3 n3 c3, .slice A4 n4 c4, .slice A5 n5 c5, .slice A6 n6 c6, .int .i64 fuel] w (RetGo (goX m t args mem answers first fuel) (goE m t args mem fuel) w) := by
  have HI := hide hi; have HMS := hide hms
  have H1 := hide h1; have H2 := hide h2; have HT := hide h; have H3 := hide h3; have H4 := hide h4; have H5 := hide h5; have H6 := hide h6
  have HBEG := hide fun (W : World) (hW : Below w.heap.size w W) => begin9_any W S1 S2 S3 S4 S5 S6 S7 m A1 A2 n1 c1 n2 c2 (h1.belowAll hW) (h2.belowAll hW) hi t A n c (h.belowAll hW) A3 A4 A5 A6 n3 c3 n4 c4 n5 c5 n6 c6 args mem answers first (h3.belowAll hW) (h4.belowAll hW) (h5.belowAll hW) (h6.belowAll hW) hm1 hm2 hm hms hm4 hm5
  clear hi hms h1 h2 h h3 h4 h5 h6
  have hnil : ∀ (W : World), Below w.heap.size w W → ∀ er, RetGo resNone er w (.returned (.tuple #[.agg #[.int .i64 0, .int .i64 0, .slice none 0 0, .slice none 0 0, .int .i64 0], .int .i64 er])) W := fun W hW er =>
    ⟨none, 0, none, 0, fun _ => False, rfl, OwnL.nil_ _ _ _ _, OwnL.nil_ _ _ _ _, fun _ h => h.elim, Below.to_ext hW⟩
  have HNIL := hide hnil
  clear hnil
  by_cases he : errR m t args mem = 0
  · have HE := hide he
    have hbeg : ∀ W, Below w.heap.size w W → ∀ e w', RetBeg m t args mem answers first W e w' → ∃ X q, e = .returned (.tuple #[.pointer (some ⟨X, 0, none⟩), .int .i64 0]) ∧ RunAt w' W.heap.size X (3 * m.saved.length + args.length) q (startR m t args mem answers first) ∧ ∃ u : Ext, w' = W.ext u := fun W _ e w' h => by
      unfold RetBeg at h; rw [if_pos HE.out] at h; exact h
    have HB2 := hide hbeg
    clear hbeg
    by_cases hl : fuel > 20000
    · have hX : goX m t args mem answers first fuel = resNone := by unfold goX; rw [if_neg (fun h => h he), if_pos hl]
      have hE : goE m t args mem fuel = 3 := by unfold goE; rw [if_neg (fun h => h he), if_pos hl]
      rw [hX, hE]
      have hl' : (20000 : Int) < fuel := hl
      clear hX hE he hl
      go_enter Try.func11, Try.ntmps11
      go_wp2_with (go_at_call 16; refine (HBEG.out _ (by repeat (first | exact Below.refl _ _ | assumption | refine Below.alloc ?_ (by simp [size_ext]; try omega) _ | refine Below.ext ?_ (by simp [size_ext]; try omega) _ | refine Below.drew ?_ | refine Below.setCell ?_ (by simp [size_ext]; try omega) _))).mono ?_; intro e w1 hr; obtain ⟨X, q, rfl, _, ux, rfl⟩ := HB2.out _ (by repeat (first | exact Below.refl _ _ | assumption | refine Below.alloc ?_ (by simp [size_ext]; try omega) _ | refine Below.ext ?_ (by simp [size_ext]; try omega) _ | refine Below.drew ?_ | refine Below.setCell ?_ (by simp [size_ext]; try omega) _)) _ _ hr; clear hr)
      refine bodyPost_ret (v := .tuple #[.agg #[.int .i64 0, .int .i64 0, .slice none 0 0, .slice none 0 0, .int .i64 0], .int .i64 3]) (by simp [results, Try.results11, go_sem]) rfl ?_
      exact HNIL.out _ (by repeat (first | exact Below.refl _ _ | assumption | refine Below.alloc ?_ (by simp [size_ext]; try omega) _ | refine Below.ext ?_ (by simp [size_ext]; try omega) _ | refine Below.drew ?_ | refine Below.setCell ?_ (by simp [size_ext]; try omega) _)) _
    · have hX : goX m t args mem answers first fuel = resOf (runN fuel.toNat (startR m t args mem answers first)) := by unfold goX; rw [if_neg (fun h => h he), if_neg hl]
      have hE : goE m t args mem fuel = 0 := by unfold goE; rw [if_neg (fun h => h he), if_neg hl]
      rw [hX, hE]
      have HINV := hide (startR_inv (answers := answers) (first := first) he HI.out)
      obtain ⟨F, hF⟩ : ∃ F, F = fuel.toNat := ⟨_, rfl⟩
      have HFe := hide hF
      have hF2 : F ≤ 20000 := by omega
      have hl' : fuel ≤ 20000 := by omega
      have hf0 := hf.1
      rw [← hF]
      have HFF := hide (show ∀ k : Nat, k < F ↔ (k : Int) < fuel from fun k => by omega)
      have HK0 := hide (show 3 * m.saved.length + args.length ≤ 300 by
        have hok := (startR_inv (answers := answers) (first := first) he HI.out).ok
        have h9 : m.args.length ≤ 8 ∧ m.saved.length ≤ 64 ∧ _ ∧ _ := rightM_few (rightT_parts hok).mach
        have : args.length ≤ m.args.length := by
          unfold errR at he
          by_cases h1 : rightT m t ≠ 0
          · rw [if_pos h1] at he; exact absurd he h1
          · rw [if_neg h1] at he
            by_cases h2 : args.length > m.args.length ∨ mem.length > 64
            · rw [if_pos h2] at he; omega
            · omega
        omega)
      clear hX hE he hl hF
      have hlg : ¬ (20000 : Int) < fuel := by omega
      go_enter Try.func11, Try.ntmps11
      go_wp2_with (go_at_call 16; refine (HBEG.out _ (by repeat (first | exact Below.refl _ _ | assumption | refine Below.alloc ?_ (by simp [size_ext]; try omega) _ | refine Below.ext ?_ (by simp [size_ext]; try omega) _ | refine Below.drew ?_ | refine Below.setCell ?_ (by simp [size_ext]; try omega) _))).mono ?_; intro e w1 hr; obtain ⟨X, q, rfl, hrun, hux⟩ := HB2.out _ (by repeat (first | exact Below.refl _ _ | assumption | refine Below.alloc ?_ (by simp [size_ext]; try omega) _ | refine Below.ext ?_ (by simp [size_ext]; try omega) _ | refine Below.drew ?_ | refine Below.setCell ?_ (by simp [size_ext]; try omega) _)) _ _ hr; have HRUN := hide hrun; have HUX := hide hux; clear hr hrun hux)
      obtain ⟨W, hW⟩ : ∃ W, W = ((w.alloc (.cells #[.int .i64 m.regs, .slice A1 n1 c1, .int .i64 m.ret, .slice A2 n2 c2] 24)).alloc (.cells #[.int .i64 t.frame, .slice A n c] 27)).alloc (.cells #[.int .i64 0, .int .i64 0, .slice none 0 0, .slice none 0 0, .int .i64 0] 37) := ⟨_, rfl⟩
      have HFW := hide (show Below w.heap.size w W by rw [hW]; exact (by repeat (first | exact Below.refl _ _ | assumption | refine Below.alloc ?_ (by simp [size_ext]; try omega) _ | refine Below.ext ?_ (by simp [size_ext]; try omega) _ | refine Below.drew ?_ | refine Below.setCell ?_ (by simp [size_ext]; try omega) _)))
      have hWs : W.heap.size = w.heap.size + 1 + 1 + 1 := by rw [hW]; simp
      have hWR := hide (show W.heap[w.heap.size + 1 + 1]? = some (.cells #[.int .i64 0, .int .i64 0, .slice none 0 0, .slice none 0 0, .int .i64 0] 37 (0, 0)) by
        have := heap_alloc_new ((w.alloc (.cells #[.int .i64 m.regs, .slice A1 n1 c1, .int .i64 m.ret, .slice A2 n2 c2] 24)).alloc (.cells #[.int .i64 t.frame, .slice A n c] 27)) (.cells #[.int .i64 0, .int .i64 0, .slice none 0 0, .slice none 0 0, .int .i64 0] 37)
        simp only [World.size_alloc] at this
        rw [hW]; exact this)
      rw [← hW] at HRUN HUX
      have HWs := hide hWs
      have HBW := hide (show Below W.heap.size W w1 by obtain ⟨u, hu⟩ := HUX.out; rw [hu]; exact Below.of_ext _ _ (Nat.le_refl _))
      clear hW hWs HUX HBEG HB2 HNIL
      have hend : ∀ (wr : World) (K : Nat) (q' : RunM), RunAt wr W.heap.size X K q' (runN F (startR m t args mem answers first)) → Below W.heap.size W wr → Calls Try.prog 23 #[.pointer (some ⟨X, 0, none⟩)] wr (RetRes (runN F (startR m t args mem answers first)) wr) := fun wr K q' hr _ => by
        have hv := runN_inv HINV.out F
        exact result9_any wr _ X K q' _ hr (by have := hv.ml; omega) (by have := hv.cl; omega) (fun c hc => by have := hv.ca c hc; omega)
      have HEND := hide hend
      clear hend
      go_loopw [37] (fun j wr => ∃ (k : Nat) (q' : RunM), k ≤ F ∧ j = .int .i64 k ∧ RunAt wr W.heap.size X (3 * m.saved.length + args.length + k) q' (runN k (startR m t args mem answers first)) ∧ Below W.heap.size W wr) (fun j _ => F - (intOf j).toNat)
      case atStart => exact ⟨0, q, Nat.zero_le _, rfl, HRUN.out, HBW.out⟩
      case round =>
        obtain ⟨k, q', hk, rfl, hrun, hbel⟩ := hrel
        have HRk := hide hrun; have HBk := hide hbel
        clear hrun hbel
        have hRw : w.heap.size + 1 + 1 < wr.heap.size := by have := HBk.out.size; have := HWs.out; omega
        have hRb := (HBk.out.block (w.heap.size + 1 + 1) (by have := HWs.out; omega)).trans hWR.out
        have r0 : wr.cell? ⟨w.heap.size + 1 + 1, 0, none⟩ = some (.int .i64 0) := cell_of_row wr _ _ _ _ (0, 0) hRb
        have r1 : wr.cell? ⟨w.heap.size + 1 + 1, 1, none⟩ = some (.int .i64 0) := cell_of_row wr _ _ _ _ (0, 0) hRb
        have r2 : wr.cell? ⟨w.heap.size + 1 + 1, 2, none⟩ = some (.slice none 0 0) := cell_of_row wr _ _ _ _ (0, 0) hRb
        have r3 : wr.cell? ⟨w.heap.size + 1 + 1, 3, none⟩ = some (.slice none 0 0) := cell_of_row wr _ _ _ _ (0, 0) hRb
        have r4 : wr.cell? ⟨w.heap.size + 1 + 1, 4, none⟩ = some (.int .i64 0) := cell_of_row wr _ _ _ _ (0, 0) hRb
        have rf : ∀ j, wr.frozen? ⟨w.heap.size + 1 + 1, j, none⟩ = false := fun j => by simp [World.frozen?, hRb]
        clear hRb
        have HFIN := hide (show ∀ (u : Ext) (wq : World) Ac cc Am cm Sc, w.heap.size + 1 + 1 < wq.heap.size → Below w.heap.size w wq →
            OwnL (wq.ext u) wq.heap.size 93 Sc (.slice Ac (runN F (startR m t args mem answers first)).calls.length cc) (runN F (startR m t args mem answers first)).calls →
            OwnL (wq.ext u) wq.heap.size 3 (fun _ => False) (.slice Am (runN F (startR m t args mem answers first)).mem.length cm) (runN F (startR m t args mem answers first)).mem → (∀ b, Sc b → wq.heap.size ≤ b) →
            RetGo (resOf (runN F (startR m t args mem answers first))) 0 w (.returned (.tuple #[.agg #[.int .i64 (runN F (startR m t args mem answers first)).fin, .int .i64 (runN F (startR m t args mem answers first)).value, .slice Ac (runN F (startR m t args mem answers first)).calls.length cc, .slice Am (runN F (startR m t args mem answers first)).mem.length cm, .int .i64 (runN F (startR m t args mem answers first)).steps], .int .i64 0]))
              ((set5 wq (w.heap.size + 1 + 1) (.int .i64 (runN F (startR m t args mem answers first)).fin) (.int .i64 (runN F (startR m t args mem answers first)).value) (.slice Ac (runN F (startR m t args mem answers first)).calls.length cc) (.slice Am (runN F (startR m t args mem answers first)).mem.length cm) (.int .i64 (runN F (startR m t args mem answers first)).steps)).ext u) from
          fun u wq Ac cc Am cm Sc hq hb hc hm hS => by
            rw [set5_ext _ _ _ _ _ _ _ _ hq]
            have hle := hb.size
            exact ⟨Ac, cc, Am, cm, Sc, rfl, (hc.set5 hq hS _ _ _ _ _).base_le hle, (hm.set5 hq (fun _ h => h.elim) _ _ _ _ _).base_le hle, fun b hb' => by have := hS b hb'; omega, Below.to_ext (Below.set5 (hb.ext hle u) (by omega) _ _ _ _ _)⟩)
        by_cases hlt : k < F
        · have hlt' := (HFF.out k).1 hlt
          have HST := hide (step9_any wr _ X _ q' _ HRk.out ((runN_inv HINV.out k).stepOk (by omega)) (by have := HK0.out; omega))
          obtain ⟨b, hb⟩ : ∃ b, (stepR (runN k (startR m t args mem answers first))).2 = b := ⟨_, rfl⟩
          rw [hb] at HST
          have HB := hide hb
          clear hb
          cases b
          · have hsame := runN_stop HB.out F hk
            have HS := hide hsame
            clear hsame
            have HST2 := hide (show Calls Try.prog 24 #[.pointer (some ⟨X, 0, none⟩)] wr (RunTo (.bool false) W.heap.size X (3 * m.saved.length + args.length + k + 1) q' (runN F (startR m t args mem answers first)) wr) by
              have := HST.out; rw [stepR_stop HB.out, ← HS.out] at this; exact this)
            clear HST r0 r1 r2 r3 r4 rf
            go_wp2_with (go_at_call 24; refine HST2.out.mono ?_; rintro e w5 ⟨rfl, q5, hr5, hf5⟩; have HR5 := hide hr5; have HF5 := hide (HBk.out.trans (hf5.below HRk.out)); have hRw5 : w.heap.size + 1 + 1 < w5.heap.size := Nat.lt_of_lt_of_le hRw hf5.size; clear hr5 hf5)
            have hRb := (HF5.out.block (w.heap.size + 1 + 1) (by have := HWs.out; omega)).trans hWR.out
            have r0 : w5.cell? ⟨w.heap.size + 1 + 1, 0, none⟩ = some (.int .i64 0) := cell_of_row w5 _ _ _ _ (0, 0) hRb
            have r1 : w5.cell? ⟨w.heap.size + 1 + 1, 1, none⟩ = some (.int .i64 0) := cell_of_row w5 _ _ _ _ (0, 0) hRb
            have r2 : w5.cell? ⟨w.heap.size + 1 + 1, 2, none⟩ = some (.slice none 0 0) := cell_of_row w5 _ _ _ _ (0, 0) hRb
            have r3 : w5.cell? ⟨w.heap.size + 1 + 1, 3, none⟩ = some (.slice none 0 0) := cell_of_row w5 _ _ _ _ (0, 0) hRb
            have r4 : w5.cell? ⟨w.heap.size + 1 + 1, 4, none⟩ = some (.int .i64 0) := cell_of_row w5 _ _ _ _ (0, 0) hRb
            have rf : ∀ j, w5.frozen? ⟨w.heap.size + 1 + 1, j, none⟩ = false := fun j => by simp [World.frozen?, hRb]
            clear hRb
            refine (HEND.out _ _ _ HR5.out HF5.out).mono ?_
            rintro e _ ⟨Ac, cc, Am, cm, Sc, rfl, hc, hm, hS, u, rfl⟩
            have HC := hide hc; have HM := hide hm; have HSc := hide hS
            clear hc hm hS
            go_wp2_with fail
            refine bodyPost_ret (v := .tuple #[.agg #[.int .i64 (runN F (startR m t args mem answers first)).fin, .int .i64 (runN F (startR m t args mem answers first)).value, .slice Ac (runN F (startR m t args mem answers first)).calls.length cc, .slice Am (runN F (startR m t args mem answers first)).mem.length cm, .int .i64 (runN F (startR m t args mem answers first)).steps], .int .i64 0]) (by simp [results, Try.results11, go_sem, r0, r1, r2, r3, r4, rf, hRw5]) rfl ?_
            exact HFIN.out u w5 Ac cc Am cm Sc hRw5 (HFW.out.trans (HF5.out.mono (by have := HWs.out; omega))) HC.out HM.out HSc.out
          · go_wp2_with (go_at_call 24; refine HST.out.mono ?_; rintro e w5 ⟨rfl, q5, hr5, hf5⟩; have HR5 := hide hr5; have HF5 := hide (hf5.below HRk.out); clear hr5 hf5)
            go_roundw
            case rel => exact ⟨k + 1, q5, by omega, by go_num, HR5.out, HBk.out.trans HF5.out⟩
            case measure => simp [intOf]; omega
        · have hlt' : ¬ (k : Int) < fuel := fun h => hlt ((HFF.out k).2 h)
          obtain rfl : k = F := by omega
          go_wp2_with (go_at_call 23; refine (HEND.out _ _ _ HRk.out HBk.out).mono ?_; rintro e _ ⟨Ac, cc, Am, cm, Sc, rfl, hc, hm, hS, u, rfl⟩; have HC := hide hc; have HM := hide hm; have HSc := hide hS; clear hc hm hS)
          refine bodyPost_ret (v := .tuple #[.agg #[.int .i64 (runN k (startR m t args mem answers first)).fin, .int .i64 (runN k (startR m t args mem answers first)).value, .slice Ac (runN k (startR m t args mem answers first)).calls.length cc, .slice Am (runN k (startR m t args mem answers first)).mem.length cm, .int .i64 (runN k (startR m t args mem answers first)).steps], .int .i64 0]) (by simp [results, Try.results11, go_sem, r0, r1, r2, r3, r4, rf, hRw]) rfl ?_
          exact HFIN.out u wr Ac cc Am cm Sc hRw (HFW.out.trans (HBk.out.mono (by have := HWs.out; omega))) HC.out HM.out HSc.out
  · have hX : goX m t args mem answers first fuel = resNone := by unfold goX; rw [if_pos he]
    have hE : goE m t args mem fuel = errR m t args mem := by unfold goE; rw [if_pos he]
    rw [hX, hE]
    obtain ⟨E, hEE⟩ : ∃ E, E = errR m t args mem := ⟨_, rfl⟩
    rw [← hEE] at he ⊢
    have hb : (E != 0) = true := by rw [bne_iff_ne]; exact he
    have HE := hide hEE; have HE0 := hide he
    clear hX hE hEE he
    go_enter Try.func11, Try.ntmps11
    go_wp2_with (go_at_call 16; refine (HBEG.out _ (by repeat (first | exact Below.refl _ _ | assumption | refine Below.alloc ?_ (by simp [size_ext]; try omega) _ | refine Below.ext ?_ (by simp [size_ext]; try omega) _ | refine Below.drew ?_ | refine Below.setCell ?_ (by simp [size_ext]; try omega) _))).mono ?_; intro e w1 hr; unfold RetBeg at hr; rw [← HE.out, if_neg HE0.out] at hr; obtain ⟨rfl, ux, rfl⟩ := hr)
    refine bodyPost_ret (v := .tuple #[.agg #[.int .i64 0, .int .i64 0, .slice none 0 0, .slice none 0 0, .int .i64 0], .int .i64 E]) (by simp [results, Try.results11, go_sem]) rfl ?_
    exact HNIL.out _ (by repeat (first | exact Below.refl _ _ | assumption | refine Below.alloc ?_ (by simp [size_ext]; try omega) _ | refine Below.ext ?_ (by simp [size_ext]; try omega) _ | refine Below.drew ?_ | refine Below.setCell ?_ (by simp [size_ext]; try omega) _)) _
end
end Go.Proofs.Ytkjipgelbjaggaa
