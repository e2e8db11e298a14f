/- Walks: the program's moves: slices.Delete, in place. -/
import Derived.Test.YtoghikagooegbaaMV5
import Derived.Test.YtoghikagooegbaaOwn3
set_option linter.unusedSimpArgs false
set_option linter.unusedVariables false
namespace Go.Proofs.Ytoghikagooegbaa
open Go.RowKit Go.Maps

theorem size_Move : Rep.size Move = 4 := rfl
set_option maxRecDepth 100000 in
set_option maxHeartbeats 4000000 in
theorem del_any (w : World) (base : Nat) (S : Nat → Prop) (g n c k : Nat) (xs : List Move) (h : OwnL w base 42 S (.slice (some ⟨g, 0, none⟩) n c) xs) (hk : k < n) :
    Calls Try.prog 40 #[.slice (some ⟨g, 0, none⟩) n c, .int .i64 k, .int .i64 (k + 1)] w (fun e w' => e = .returned (.slice (some ⟨g, 0, none⟩) (n - 1) c) ∧ OwnL w' base 42 S (.slice (some ⟨g, 0, none⟩) (n - 1) c) (xs.eraseIdx k) ∧ w.grownBy w' (some g)) := by
  obtain ⟨i0, hi, hz, hz1, hz2⟩ := info_parts info_Move
  have HI0 := hide hi; have HZ := hide hz; have HZ1 := hide hz1; have HZ2 := hide hz2
  clear hi hz hz1 hz2
  obtain ⟨h1, h2, h3, h4, hg, h5, cur, h6, h7, h8⟩ := h.form_at
  rw [size_Move] at h7 h8
  obtain ⟨news, hnews⟩ : ∃ news, news = (cur.toList.take (n * 4)).drop ((k + 1) * 4) := ⟨_, rfl⟩
  have hcn : n * 4 ≤ cur.size := by rw [h7]; omega
  have hnl : news.length = (n - (k + 1)) * 4 := by rw [hnews, List.length_drop, List.length_take, Array.length_toList]; omega
  have hcell : ∀ j, j < cur.size → w.cell? ⟨g, j, none⟩ = some (cur[j]?.getD undef) := fun j hj => by
    simp [World.cell?, h6, hj]
  have hfr : ∀ j, w.frozen? ⟨g, j, none⟩ = false := fun j => by simp [World.frozen?, h6]
  have hget : ∀ t u, news[t]? = some u → t < (n - (k + 1)) * 4 ∧ w.cell? ⟨g, (k + 1) * 4 + t, none⟩ = some u := fun t u hu => by
    have ht : t < news.length := (List.getElem?_eq_some_iff.1 hu).1
    refine ⟨by omega, ?_⟩
    rw [hnews, List.getElem?_drop, List.getElem?_take, if_pos (by omega), Array.getElem?_toList] at hu
    rw [hcell _ (by omega), hu]; rfl
  obtain ⟨A, hA, hsrc⟩ : ∃ A : Addr, (if c = k + 1 then some (⟨g, 0, none⟩ : Addr) else some ⟨g, (k + 1) * 4, none⟩) = some A ∧ Hid (∀ t u, news[t]? = some u → w.drew.cell? (A.add t) = some u) := by
    by_cases hc : c = k + 1
    · refine ⟨⟨g, 0, none⟩, by simp [hc], fun t u hu => ?_⟩
      have := (hget t u hu).1
      omega
    · refine ⟨⟨g, (k + 1) * 4, none⟩, by simp [hc], fun t u hu => ?_⟩
      rw [Addr.add_lit]
      exact (hget t u hu).2
  have s1 : Hid (news.length = (n - (k + 1)) * 4) := hnl
  have s2 : Hid (∀ u ∈ news, u.oneCell' = true) := fun u hu => by
    rw [hnews] at hu
    exact h8.one u (List.mem_of_mem_drop hu)
  have s3 : Hid (∀ t, t < news.length → (w.drew.cell? ⟨g, 0 + k * 4 + t, none⟩).isSome = true ∧ w.drew.frozen? ⟨g, 0 + k * 4 + t, none⟩ = false) := fun t ht => by
    rw [Nat.zero_add]
    exact ⟨by show (w.cell? _).isSome = true; rw [hcell _ (by omega)]; rfl, hfr _⟩
  obtain ⟨W1, hW1⟩ : ∃ W1, W1 = w.drew.setCells g (0 + k * 4) news := ⟨_, rfl⟩
  have hW : Hid (W1 = w.drew.setCells g (0 + k * 4) news) := hW1
  have hb1 : W1.heap[g]? = some (.cells (arrSet cur (k * 4) news) 42 (0, 0)) := by
    rw [hW1, Nat.zero_add]; exact heap_setCells_same news (k * 4) w.drew cur h6
  have hcl : ∀ ty, (Builtin.clear_ #[22] ty #[.slice (some ⟨g, (k + (n - (k + 1))) * 4, none⟩) (n - (k + (n - (k + 1)))) (c - (k + (n - (k + 1))))]).run Try.prog W1 = .ok (.tuple #[]) (W1.setCells g ((n - 1) * 4) [.bool false, .int .i64 0, .bool false, .int .i64 0]) := fun ty => by
    have hh := run_clear_one (P := Try.prog) W1 22 42 ty (.agg #[.bool false, .int .i64 0, .bool false, .int .i64 0]) Try.underlying22 (by kernel_rfl) (by decide) (by decide) g ((n - 1) * 4) (c - (n - 1))
      (fun j hj => by
        have hj4 : j < 4 := hj
        simp only [World.cell?, hb1, Option.isSome_none, Bool.false_eq_true, if_false]
        rw [Array.getElem?_eq_getElem (by rw [arrSet_size]; omega)]; rfl) (fun j hj => by simp [World.frozen?, hb1])
    rw [show k + (n - (k + 1)) = n - 1 by omega, show n - (n - 1) = 1 by omega]
    exact hh
  have HO := hide h
  have HNW := hide (show ∀ cur', w.drew.heap[g]? = some (.cells cur' 42 (0, 0)) → news = (cur'.toList.take (n * Rep.size Move)).drop ((k + 1) * Rep.size Move) from fun cur' h' => by
    have e : w.heap[g]? = some (.cells cur' 42 (0, 0)) := h'
    rw [h6] at e
    injection e with e; injection e with e
    rw [← e, size_Move]; exact hnews)
  have hcm : c ≤ 9223372036854775807 := h3
  have hwr : IntKind.i64.wrap ((k : Int) + 1) = (k : Int) + 1 := IntWalk.i64_in _ (by omega)
  have hp0 : (0 : Int) ≤ (k : Int) + 1 := by omega
  have hp1 : (k : Int) + 1 ≤ (n : Int) := by omega
  have hp2 : ((k : Int) + 1).toNat = k + 1 := by omega
  have hkc : k ≤ c := by omega
  clear hnews hcell hfr hget hnl h6 h7 h8 hW1 hb1 h h1 h5 hcn
  go_enter Try.func40, Try.ntmps40
  go_wp2_with fail
  go_region_law (refine step_append_room rfl (.tmp 22) (.tmp 25) 22 rfl 42 i0 4 Try.underlying22 HI0.out HZ1.out g 0 k c (by simp [Act.eval, Act.put]) A (n - (k + 1)) (c - (k + 1)) news (by simp [Act.eval, Act.put]) s1.out hsrc.out s2.out (by omega) s3.out ?_; rw [← hW.out])
  go_wp2_with fail
  go_ret
  refine ⟨by rw [show k + (n - (k + 1)) = n - 1 by omega]; rfl, ?_, ?_⟩
  · have hh := HO.out.drew.erase hk HNW.out (zs := [.bool false, .int .i64 0, .bool false, .int .i64 0]) rfl
    rw [size_Move] at hh
    rw [hW.out, Nat.zero_add]
    exact hh
  · rw [hW.out]
    exact (World.grownBy.trans (rowF_drew w (some g)) (setCells_grown g news (0 + k * 4) w.drew)).trans (setCells_grown g _ _ _)
end Go.Proofs.Ytoghikagooegbaa
