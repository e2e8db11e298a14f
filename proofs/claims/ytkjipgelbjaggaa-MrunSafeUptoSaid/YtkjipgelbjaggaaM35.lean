/- Walk: a target in memory of its own. -/
import Derived.Test.YtkjipgelbjaggaaM33
import Derived.Test.YtkjipgelbjaggaaM34
set_option linter.unusedSimpArgs false
set_option linter.unusedVariables false
namespace Go.Proofs.Ytkjipgelbjaggaa
open Go.RowKit Go.Maps
/-- a target whose memory is its own, but for what its instructions' arguments lie in -/
def RetTg (t : Target) (S : Nat → Prop) (w : World) (e : Ending) (w' : World) : Prop :=
  ∃ A c, e = .returned (.agg #[.int .i64 t.frame, .slice A t.blocks.length c]) ∧ Sl w' (fun b => (S b ∧ b < w.heap.size) ∨ w.heap.size ≤ b) A t.blocks.length c t.blocks ∧ ∃ u : Ext, w' = w.ext u
set_option maxHeartbeats 4000000 in
set_option maxRecDepth 8000 in
theorem copied_any (w : World) (S : Nat → Prop) (t : Target) (A : Option Addr) (n c : Nat) (h : Sl w S A n c t.blocks) (hn : n ≤ 1048576) (hs : ∀ b ∈ t.blocks, b.ins.length ≤ 1048576) :
    Calls Try.prog 41 #[.agg #[.int .i64 t.frame, .slice A n c]] w (RetTg t S w) := by
  have HS := hide (h.more (S' := fun b => S b ∧ b < w.heap.size) fun b hb h => ⟨h, hb⟩); have HSM := hide hs
  have HL := hide h.len
  clear h hs
  go_enter Try.func41, Try.ntmps41
  go_wp2_with (go_at_call 65; refine (clone_blocks _ (fun b => S b ∧ b < w.heap.size) A n c t.blocks (by repeat (first | assumption | exact Hd.out (by assumption) | apply Sl.alloc | apply Sl.ext | apply Sl.drew | apply Sl.drewN)) hn).mono ?_; rintro e _ ⟨A1, c1, rfl, ho, u, rfl⟩; rw [HL.out] at ho; rw [HL.out]; have HO := hide ho; clear ho)
  obtain ⟨V, hV⟩ : ∃ V, V = ((w.alloc (.cells #[.int .i64 t.frame, .slice A1 n c1] 27)).alloc (.cells #[.int .i64 0, .slice none 0 0] 27)).ext u := ⟨_, rfl⟩
  have hV2 : V = (((w.alloc (.cells #[.int .i64 t.frame, .slice A n c] 27)).alloc (.cells #[.int .i64 0, .slice none 0 0] 27)).ext u).setCell ⟨w.heap.size, 1, none⟩ (.slice A1 n c1) := by rw [hV]; go_simp
  have HFV := hide (show Below w.heap.size w V by rw [hV]; exact (by repeat (first | exact Below.refl _ _ | assumption | refine Below.alloc ?_ (by simp [size_ext]; try omega) _ | refine Below.ext ?_ (by simp [size_ext]; try omega) _ | refine Below.drew ?_ | refine Below.setCell ?_ (by simp [size_ext]; try omega) _)))
  have hVT := hide (show V.heap[w.heap.size]? = some (.cells #[.int .i64 t.frame, .slice A1 n c1] 27 (0, 0)) by
    rw [hV, ext_block _ _ _ (by simp; omega), Below.heap_alloc _ _ _ (by simp), heap_alloc_new])
  have hVR := hide (show V.heap[w.heap.size + 1]? = some (.cells #[.int .i64 0, .slice none 0 0] 27 (0, 0)) by
    have := heap_alloc_new (w.alloc (.cells #[.int .i64 t.frame, .slice A1 n c1] 27)) (.cells #[.int .i64 0, .slice none 0 0] 27)
    rw [World.size_alloc] at this
    rw [hV, ext_block _ _ _ (by simp)]; exact this)
  have hown := HO.out.below_
  have hsz2 : ((w.alloc (.cells #[.int .i64 t.frame, .slice A n c] 27)).alloc (.cells #[.int .i64 0, .slice none 0 0] 27)).heap.size = w.heap.size + 1 + 1 := by simp
  have HOV := hide (show OwnL V (w.heap.size + 2) 60 (fun b => (S b ∧ b < w.heap.size) ∨ V.heap.size ≤ b) (.slice A1 n c1) t.blocks by
    have h1 : OwnL V (w.heap.size + 2) 60 (fun b => (S b ∧ b < w.heap.size) ∧ b < w.heap.size + 1 + 1) (.slice A1 n c1) t.blocks := by
      have h2 := HO.out
      rw [hsz2] at h2
      rw [hV2]
      exact h2.setCell (p := ⟨w.heap.size, 1, none⟩) (fun e => by have h0 : w.heap.size < w.heap.size := e.1.2; omega) (fun e => by have h0 : w.heap.size + 1 + 1 ≤ w.heap.size := (h2.below_ _ e).1; omega) _
    refine h1.moreS (fun b _ hb => .inl hb.1) fun g hg hS => ?_
    have h3 := h1.below_ g hg
    rcases hS with hS | hS
    · omega
    · omega)
  obtain ⟨B1, hB1⟩ : ∃ B1, B1 = V.heap.size := ⟨_, rfl⟩
  have HB1 := hide hB1
  have hVT2 : w.heap.size + 1 < V.heap.size := (Array.getElem?_eq_some_iff.1 hVR.out).1
  rw [← hV]
  rw [← hB1] at HOV
  clear hV hV2 hown hsz2 hB1 HO
  go_loopw [11] (fun j wr => ∃ k : Nat, k ≤ n ∧ j = .int .i64 k ∧ wr.heap[w.heap.size]? = some (.cells #[.int .i64 t.frame, .slice A1 n c1] 27 (0, 0)) ∧ wr.heap[w.heap.size + 1]? = some (.cells #[.int .i64 0, .slice none 0 0] 27 (0, 0)) ∧
    OwnL wr (w.heap.size + 2) 60 (fun b => (S b ∧ b < w.heap.size) ∨ B1 ≤ b) (.slice A1 n c1) t.blocks ∧ (∀ g, (Value.slice A1 n c1).ownBlock = some g → g < B1) ∧ Below w.heap.size w wr ∧ B1 ≤ wr.heap.size) (fun j _ => n - (intOf j).toNat)
  case atStart => exact ⟨0, Nat.zero_le _, rfl, hVT.out, hVR.out, HOV.out, fun g hg => by rw [HB1.out]; exact (HOV.out.below_ g hg).2, HFV.out, by rw [HB1.out]; exact Nat.le_refl _⟩
  case round =>
    obtain ⟨k, hk, rfl, hT, hR, hown, hgB, hbel, hsz⟩ := hrel
    have HTk := hide hT; have HRk := hide hR; have HO := hide hown; have HGB := hide hgB; have HBk := hide hbel
    clear hT hR hown hgB hbel
    have hTw : w.heap.size + 1 < wr.heap.size := (Array.getElem?_eq_some_iff.1 HRk.out).1
    have hTw' : w.heap.size < wr.heap.size := by omega
    have t1 : wr.cell? ⟨w.heap.size, 1, none⟩ = some (.slice A1 n c1) := cell_of_row wr _ _ _ _ (0, 0) HTk.out
    by_cases hlt : k < n
    · obtain ⟨g, c', hA1⟩ := HO.out.form_ne (by have := HL.out; omega)
      obtain rfl : A1 = some ⟨g, 0, none⟩ := by injection hA1
      obtain ⟨x, hx⟩ : ∃ x, t.blocks[k]? = some x := ⟨_, List.getElem?_eq_getElem (by rw [HL.out]; exact hlt)⟩
      obtain ⟨us, hus, hc, hf⟩ := HO.out.cell_at hx
      obtain ⟨Ai, ni, ci, rfl, hins, it1, it2, it3, it4⟩ := Block.open_ hus
      have z0 : wr.cell? ⟨g, k * 5, none⟩ = some (.slice Ai ni ci) := by have := hc 0 _ rfl; simpa [Rep.size] using this
      have zf : wr.frozen? ⟨g, k * 5, none⟩ = false := hf _
      have hgl : g < wr.heap.size := (HO.out.below_ g rfl).2
      have hgb : w.heap.size + 2 ≤ g := (HO.out.below_ g rfl).1
      have HX := hide hx; have HI := hide hins; have HNI := hide hins.len
      have hni : ni ≤ 1048576 := by rw [← hins.len]; exact HSM.out x (List.mem_of_getElem? hx)
      have hn63 : n ≤ 9223372036854775807 := by omega
      clear hA1 hx hins it1 it2 it3 it4 hus hc hf
      go_wp2_with fail
      refine wp_region_last_ext [] [9] 12 (by kernel_rfl) rfl rfl rfl (by kernel_rfl) (by kernel_rfl) ?_
      simp only [List.take_succ_cons, List.take_zero]
      repeat (refine flow_known (by kernel_rfl) (fun K hK => ?_); go_simp; (first | (refine hK _ ?_; clear hK K) | (apply Exists.intro; refine ⟨fun _ => ?_, hK _ ?_⟩; (fail); clear hK K)))
      refine flow_keep0 (OwnP wr.heap.size ni 66 (fun b => ((S b ∧ b < w.heap.size) ∨ B1 ≤ b) ∧ b < wr.heap.size) x.ins) (by kernel_rfl) (OwnP.stable_ rfl) ?_ ?_
      · intro v
        go_simp
        refine (clone_inss _ (fun b => ((S b ∧ b < w.heap.size) ∨ B1 ≤ b) ∧ b < wr.heap.size) Ai ni ci x.ins ((HI.out.more (S' := fun b => ((S b ∧ b < w.heap.size) ∨ B1 ≤ b) ∧ b < wr.heap.size) fun b hb h => ⟨h, hb⟩).ext v) hni).mono ?_
        rintro e _ ⟨A', c', rfl, hs, x', rfl⟩
        rw [HNI.out] at hs ⊢
        refine ⟨_, rfl, ⟨A', c', rfl, ?_⟩, onW_ext ⟨_, rfl⟩ ⟨x', rfl⟩⟩
        refine (hs.moreS (fun b _ hb => hb.1) fun g' hg' hS => ?_).base_le (by rw [size_ext]; omega)
        have := (hs.below_ g' hg').1
        rw [size_ext] at this
        omega
      repeat (refine flow_known (by kernel_rfl) (fun K hK => ?_); go_simp; (first | (refine hK _ ?_; clear hK K) | (apply Exists.intro; refine ⟨fun _ => ?_, hK _ ?_⟩; (fail); clear hK K)))
      refine flow_done [true] (by kernel_rfl) ?_
      intro v
      simp only [List.nil_append, List.cons_append, endH_f, endH_t, endH_nil]
      rintro _ ⟨A', c', rfl, hs⟩
      go_simp
      go_wp2_with fail
      have HS' := hide hs
      clear hs
      go_roundw
      case rel =>
        rw [← setCell_ext wr v ⟨g, k * 5, none⟩ (.slice A' ni c') hgl]
        refine ⟨k + 1, by omega, by go_num, ?_, ?_, ?_, HGB.out, ?_, by simp [size_ext]; omega⟩
        · rw [show ((wr.ext v).setCell ⟨g, k * 5, none⟩ (.slice A' ni c')).heap[w.heap.size]? = (wr.ext v).heap[w.heap.size]? from Below.heap_setCell _ _ _ _ (fun e => by have h0 : w.heap.size = g := e; omega), ext_block _ _ _ hTw']; exact HTk.out
        · rw [show ((wr.ext v).setCell ⟨g, k * 5, none⟩ (.slice A' ni c')).heap[w.heap.size + 1]? = (wr.ext v).heap[w.heap.size + 1]? from Below.heap_setCell _ _ _ _ (fun e => by have h0 : w.heap.size + 1 = g := e; omega), ext_block _ _ _ hTw]; exact HRk.out
        · have h1 := (HO.out.ext v).set (i := k) (j := 0) (x := x) (y := x) (v := .slice A' ni c') HX.out (by decide) (fun us hu => by
            obtain ⟨Ai', ni', ci', rfl, hins', it1, it2, it3, it4⟩ := Block.open_ hu
            exact Block.mk_ (HS'.out.slo fun b _ h => by
              rcases h with h | h
              · exact h.1
              · right; have := (HS'.out.below_ b h).1; omega) it1 it2 it3 it4)
          have e1 : t.blocks.set k x = t.blocks := by
            apply List.ext_getElem?
            intro i
            rw [List.getElem?_set]
            split
            · rename_i e; subst e; rw [HX.out]; split
              · rfl
              · rename_i h; rw [HL.out] at h; omega
            · rfl
          rw [e1] at h1
          exact h1
        · exact (HBk.out.ext (by omega) v).setCell (show w.heap.size ≤ g by omega) _
      case measure => simp [intOf]; omega
    · have HFe := hide HO.out
      obtain rfl : k = n := by omega
      have t0 : wr.cell? ⟨w.heap.size, 0, none⟩ = some (.int .i64 t.frame) := cell_of_row wr _ _ _ _ (0, 0) HTk.out
      have r0 : wr.cell? ⟨w.heap.size + 1, 0, none⟩ = some (.int .i64 0) := cell_of_row wr _ _ _ _ (0, 0) HRk.out
      have r1 : wr.cell? ⟨w.heap.size + 1, 1, none⟩ = some (.slice none 0 0) := cell_of_row wr _ _ _ _ (0, 0) HRk.out
      have rf : ∀ j, wr.frozen? ⟨w.heap.size + 1, j, none⟩ = false := fun j => by simp [World.frozen?, HRk.out]
      go_wp2_with fail
      refine bodyPost_ret (v := .agg #[.int .i64 t.frame, .slice A1 k c1]) (by simp [results, Try.results41, go_sem, t0, t1, r0, r1, rf]) rfl ?_
      have hnR : ∀ j : Nat, (Value.slice A1 k c1).ownBlock ≠ some ((⟨w.heap.size + 1, j, none⟩ : Addr).block) := fun j e => by have h0 : w.heap.size + 2 ≤ w.heap.size + 1 := (HFe.out.below_ _ e).1; omega
      have hsR : ∀ j : Nat, ¬ ((S ((⟨w.heap.size + 1, j, none⟩ : Addr).block) ∧ (⟨w.heap.size + 1, j, none⟩ : Addr).block < w.heap.size) ∨ B1 ≤ (⟨w.heap.size + 1, j, none⟩ : Addr).block) := fun j e => by
        rcases e with e | e
        · have h0 : w.heap.size + 1 < w.heap.size := e.2; omega
        · have h0 : B1 ≤ w.heap.size + 1 := e; have := HB1.out; omega
      refine ⟨A1, c1, by rw [HL.out], ?_, Below.to_ext ((HBk.out.setCell (by show w.heap.size ≤ w.heap.size + 1; omega) _).setCell (by show w.heap.size ≤ w.heap.size + 1; omega) _)⟩
      rw [HL.out]
      refine ((HFe.out.setCell (hsR 0) (hnR 0) _).setCell (hsR 1) (hnR 1) _).slo fun b hb h => ?_
      rcases h with (h | h) | h
      · exact .inl h
      · exact .inr (by have := HB1.out; omega)
      · exact .inr (by have := (HFe.out.below_ b h).1; omega)
end Go.Proofs.Ytkjipgelbjaggaa
