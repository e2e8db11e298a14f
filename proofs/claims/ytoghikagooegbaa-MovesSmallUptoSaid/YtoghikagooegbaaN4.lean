/- Walks: the document's moves: place, ins, Busy; law 26: refs, same. Walks: law 26: refs, same. -/
import Derived.Test.YtoghikagooegbaaMV10
set_option linter.unusedSimpArgs false
set_option linter.unusedVariables false
namespace Go.Proofs.Ytoghikagooegbaa
open Go.RowKit Go.Maps

theorem place26_any (w : World) (p : Loc) : Calls Try.prog 34 #[.agg #[.bool p.slot, .int .i64 p.n]] w (RetX (.bool (okL p)) w) := by
  obtain ⟨s, n⟩ := p
  by_cases h0 : 0 ≤ n
  · have hd : decide (0 ≤ n) = true := by simpa using h0
    go_enter Try.func34, Try.ntmps34
    cases s with
    | true =>
      by_cases h1 : n < 400
      · have he : decide (n < 400) = true := by simpa using h1
        go_wp2_with fail
        go_ret
        exact RetX.b (by unfold okL; simp [h0, h1]) (by repeat (first | exact Below.refl _ _ | assumption | refine Below.alloc ?_ (by simp [size_ext]; try omega) _ | refine Below.ext ?_ (by simp [size_ext]; try omega) _ | refine Below.drew ?_ | refine Below.setCell ?_ (by simp [size_ext]; try omega) _))
      · have he : decide (n < 400) = false := by simpa using h1
        go_wp2_with fail
        go_ret
        exact RetX.b (by unfold okL; simp [h1]) (by repeat (first | exact Below.refl _ _ | assumption | refine Below.alloc ?_ (by simp [size_ext]; try omega) _ | refine Below.ext ?_ (by simp [size_ext]; try omega) _ | refine Below.drew ?_ | refine Below.setCell ?_ (by simp [size_ext]; try omega) _))
    | false =>
      by_cases h1 : n < 64
      · have he : decide (n < 64) = true := by simpa using h1
        go_wp2_with fail
        go_ret
        exact RetX.b (by unfold okL; simp [h0, h1]) (by repeat (first | exact Below.refl _ _ | assumption | refine Below.alloc ?_ (by simp [size_ext]; try omega) _ | refine Below.ext ?_ (by simp [size_ext]; try omega) _ | refine Below.drew ?_ | refine Below.setCell ?_ (by simp [size_ext]; try omega) _))
      · have he : decide (n < 64) = false := by simpa using h1
        go_wp2_with fail
        go_ret
        exact RetX.b (by unfold okL; simp [h1]) (by repeat (first | exact Below.refl _ _ | assumption | refine Below.alloc ?_ (by simp [size_ext]; try omega) _ | refine Below.ext ?_ (by simp [size_ext]; try omega) _ | refine Below.drew ?_ | refine Below.setCell ?_ (by simp [size_ext]; try omega) _))
  · have hd : decide (0 ≤ n) = false := by simpa using h0
    go_enter Try.func34, Try.ntmps34
    go_wp2_with fail
    go_ret
    exact RetX.b (by show false = (decide (0 ≤ n) && _); rw [hd]; rfl) (by repeat (first | exact Below.refl _ _ | assumption | refine Below.alloc ?_ (by simp [size_ext]; try omega) _ | refine Below.ext ?_ (by simp [size_ext]; try omega) _ | refine Below.drew ?_ | refine Below.setCell ?_ (by simp [size_ext]; try omega) _))
/-- An instruction's value, its list empty. -/
def insV (x : Ins) : Value := .agg #[.int .i64 x.op, .int .i64 x.dst, .int .i64 x.a, .int .i64 x.b, .int .i64 x.imm, .int .i64 x.callee, .slice none 0 0, .int .i64 x.many]
theorem insD_any (w : World) (m : Move) : Calls Try.prog 42 #[.agg #[.bool m.src.slot, .int .i64 m.src.n, .bool m.dst.slot, .int .i64 m.dst.n]] w (RetX (insV (insM m)) w) := by
  obtain ⟨⟨s1, n1⟩, ⟨s2, n2⟩⟩ := m
  have hr := heap_alloc_new (w.alloc (.cells #[.bool s1, .int .i64 n1, .bool s2, .int .i64 n2] 69))
  rw [World.size_alloc] at hr
  go_enter Try.func42, Try.ntmps42
  cases s2
  · cases s1
    all_goals
      go_wp2_with fail
      refine bodyPost_ret (results_cell_row Try.results42 _ _ (w.heap.size + 1) _ _ (0, 0) _ rfl (hr _) Try.underlying54 rfl (by kernel_rfl)) rfl ?_
      exact ⟨rfl, Below.to_ext (by repeat (first | exact Below.refl _ _ | assumption | refine Below.alloc ?_ (by simp [size_ext]; try omega) _ | refine Below.ext ?_ (by simp [size_ext]; try omega) _ | refine Below.drew ?_ | refine Below.setCell ?_ (by simp [size_ext]; try omega) _))⟩
  · go_wp2_with fail
    refine bodyPost_ret (results_cell_row Try.results42 _ _ (w.heap.size + 1) _ _ (0, 0) _ rfl (hr _) Try.underlying54 rfl (by kernel_rfl)) rfl ?_
    exact ⟨rfl, Below.to_ext (by repeat (first | exact Below.refl _ _ | assumption | refine Below.alloc ?_ (by simp [size_ext]; try omega) _ | refine Below.ext ?_ (by simp [size_ext]; try omega) _ | refine Below.drew ?_ | refine Below.setCell ?_ (by simp [size_ext]; try omega) _))⟩
theorem info_DMove : (Try.prog.info? 69).map (fun i => (i.zero, i.size, i.bytes)) = some (some (.agg #[.bool false, .int .i64 0, .bool false, .int .i64 0]), 4, 32) := by kernel_rfl
set_option maxRecDepth 100000 in
set_option maxHeartbeats 4000000 in
theorem busyD_any (w : World) (S : Nat → Prop) (A : Option Addr) (n c : Nat) (xs : List Move) (h : Sl w S A n c xs) (hm : n ≤ 1048576) :
    Calls Try.prog 16 #[.slice A n c] w (RetO 69 (busyM xs) w) := by
  have HL := hide h.len
  have HS := hide h
  clear h
  obtain ⟨i0, hi, hz, hz1, hz2⟩ := info_parts info_DMove
  have HI0 := hide hi; have HZ := hide hz; have HZ1 := hide hz1; have HZ2 := hide hz2
  clear hi hz hz1 hz2
  go_enter Try.func16, Try.ntmps16
  go_wp2_with fail
  go_loopw [3, 4] (fun o i wr => ∃ k : Nat, k ≤ n ∧ i = .int .i64 k ∧ OwnL wr w.heap.size 69 (fun _ => False) o (busyM (xs.take k)) ∧ Below w.heap.size w wr) (fun _ i _ => n - (intOf i).toNat)
  case atStart => exact ⟨0, Nat.zero_le _, rfl, OwnL.nil_ _ _ _ _, Below.refl _ _⟩
  case round =>
    obtain ⟨k, hk, rfl, hoq, hbq⟩ := hrel
    have HOQ := hide hoq; have HBQ := hide hbq
    have hwq := hbq.size
    clear hoq hbq
    by_cases hlt : k < n
    · obtain ⟨b, off, x, rfl, hb, hx, hx1, hx2, c0, c1, c2, c3⟩ := at_Move (HS.out.belowAll HBQ.out) hlt
      have HT := hide (busy_take hx)
      have HX1 := hide hx1; have HX2 := hide hx2
      have hki : (k : Int) < n := by omega
      have hln : (busyM (xs.take k)).length ≤ 1048576 := by have := busy_le (xs.take k); rw [List.length_take] at this; omega
      obtain ⟨q, hq⟩ : ∃ q, decide (x.src = x.dst) = q := ⟨_, rfl⟩
      have EQ : ∀ w : World, (Op.equalIn 10000 40 (.agg #[.bool x.src.slot, .int .i64 x.src.n]) (.agg #[.bool x.dst.slot, .int .i64 x.dst.n])).run Try.prog w = .ok q w := fun w => hq ▸ eq_loc_run x.src x.dst w
      have HQ := hide hq
      clear hx hx1 hx2 hq
      go_wp2_with fail
      refine wp_region_flow_ext [] [] (by kernel_rfl) rfl (by kernel_rfl) ?_
      repeat (refine flow_known (by kernel_rfl) (fun K hK => ?_); go_simp; (first | (refine hK _ ?_; clear hK K) | (apply Exists.intro; refine ⟨fun _ => ?_, hK _ ?_⟩; (fail); clear hK K)))
      refine flow_done [] (by kernel_rfl) ?_
      intro u
      simp only [List.nil_append, List.cons_append, endH_f, endH_t, endH_nil]
      obtain ⟨W, hW⟩ : ∃ W, wr.ext u = W := ⟨_, rfl⟩
      have HBW := hide (show Below w.heap.size w W by rw [← hW]; exact HBQ.out.ext hwq u)
      have HOW := hide (show OwnL W w.heap.size 69 (fun _ => False) u3 (busyM (xs.take k)) by rw [← hW]; exact HOQ.out.ext u)
      have e0 : W.cell? ⟨b, off + k * 4, none⟩ = some (.bool x.src.slot) := by rw [← hW, cell?_ext _ _ _ hb]; exact c0
      have e1 : W.cell? ⟨b, off + k * 4 + 1, none⟩ = some (.int .i64 x.src.n) := by rw [← hW, cell?_ext _ _ _ hb]; exact c1
      have e2 : W.cell? ⟨b, off + k * 4 + 2, none⟩ = some (.bool x.dst.slot) := by rw [← hW, cell?_ext _ _ _ hb]; exact c2
      have e3 : W.cell? ⟨b, off + k * 4 + 3, none⟩ = some (.int .i64 x.dst.n) := by rw [← hW, cell?_ext _ _ _ hb]; exact c3
      have hoB := HOW.out.below_
      have hwW := HBW.out.size
      rw [hW]
      clear hW c0 c1 c2 c3 HOQ HBQ EQ hb hwq
      cases q with
      | true =>
        have HT2 := hide (show busyM (xs.take (k + 1)) = busyM (xs.take k) by rw [HT.out, if_pos (by simpa using HQ.out), List.append_nil])
        go_wp2_with fail
        first
          | (go_roundw; case rel => exact ⟨k + 1, by omega, by go_num, by rw [HT2.out]; exact HOW.out, HBW.out⟩; case measure => simp [intOf]; omega)
          | exact ⟨⟨k + 1, by omega, by go_num, by rw [HT2.out]; exact HOW.out, HBW.out⟩, by simp [intOf]; omega⟩
      | false =>
        have HT2 := hide (show busyM (xs.take (k + 1)) = busyM (xs.take k) ++ [x] by rw [HT.out, if_neg (by simpa using HQ.out)])
        go_wp2_with (at_builtin; refine wpList_push (α := Move) W [.bool x.src.slot, .int .i64 x.src.n, .bool x.dst.slot, .int .i64 x.dst.n] 69 rfl (.tmp 22) (.tmp 27) 29 rfl w.heap.size 69 i0 _ 32 Try.underlying29 HI0.out HZ.out HZ1.out HZ2.out rfl (by decide) (fun _ => False) (fun _ => False) u3 _ x rfl HOW.out _ rfl rfl (Move.mk_ HX1.out HX2.out) (fun _ h => h) (fun _ _ h => h) (fun _ h => h.elim) (by omega) (by omega) hwW ?_; intro v' w1 hown' hg _; have HO' := hide hown'; have HG := hide hg; clear hown' hg)
        first
          | (go_roundw; case rel => exact ⟨k + 1, by omega, by go_num, by rw [HT2.out]; exact HO'.out, (HBW.out.alloc (by omega) _).grown HG.out (by simp; omega) fun r e => (hoB r e).1⟩; case measure => simp [intOf]; omega)
          | exact ⟨⟨k + 1, by omega, by go_num, by rw [HT2.out]; exact HO'.out, (HBW.out.alloc (by omega) _).grown HG.out (by simp; omega) fun r e => (hoB r e).1⟩, by simp [intOf]; omega⟩
    · have hkn : k = n := by omega
      subst hkn
      have hlk : xs.take k = xs := List.take_of_length_le (by rw [HL.out]; exact Nat.le_refl _)
      rw [hlk] at HOQ
      obtain ⟨A', c', rfl⟩ := HOQ.out.form
      go_wp2_with fail
      go_ret
      exact RetO.mk_ HOQ.out (fun _ h => h.elim) HBQ.out
end Go.Proofs.Ytoghikagooegbaa
set_option linter.unusedSimpArgs false
set_option linter.unusedVariables false
namespace Go.Proofs.Ytoghikagooegbaa
open Go.RowKit Go.Maps

set_option maxRecDepth 100000 in
set_option maxHeartbeats 4000000 in
theorem refs_any (w : World) (S : Nat → Prop) (A : Option Addr) (n c : Nat) (xs : List Move) (h : Sl w S A n c xs) (hm : n ≤ 1048576) :
    Calls Try.prog 10 #[.slice A n c] w (RetO 69 xs w) := by
  have HL := hide h.len
  have HS := hide h
  clear h
  obtain ⟨i0, hi, hz, hz1, hz2⟩ := info_parts info_DMove
  have HI0 := hide hi; have HZ := hide hz; have HZ1 := hide hz1; have HZ2 := hide hz2
  clear hi hz hz1 hz2
  go_enter Try.func10, Try.ntmps10
  go_wp2_with fail
  go_loopw [3, 4] (fun o i wr => ∃ k : Nat, k ≤ n ∧ i = .int .i64 k ∧ OwnL wr w.heap.size 69 (fun _ => False) o (xs.take k) ∧ Below w.heap.size w wr) (fun _ i _ => n - (intOf i).toNat)
  case atStart => exact ⟨0, Nat.zero_le _, rfl, OwnL.nil_ _ _ _ _, Below.refl _ _⟩
  case round =>
    obtain ⟨k, hk, rfl, hoq, hbq⟩ := hrel
    have HOQ := hide hoq; have HBQ := hide hbq
    have hwq := hbq.size
    clear hoq hbq
    by_cases hlt : k < n
    · obtain ⟨b, off, x, rfl, hb, hx, hx1, hx2, c0, c1, c2, c3⟩ := at_Move (HS.out.belowAll HBQ.out) hlt
      have HTA := hide (take_at hx)
      have HX1 := hide hx1; have HX2 := hide hx2
      have hki : (k : Int) < n := by omega
      have hln : (xs.take k).length ≤ 1048576 := by rw [List.length_take]; omega
      have hoB := HOQ.out.below_
      clear hx hx1 hx2
      go_wp2_with fail
      refine wp_region_row_lastD (u3.ownBlock) [13] [12, 13] 14 (by kernel_rfl) rfl rfl rfl (by kernel_rfl) (by kernel_rfl) ?_
      simp only [List.take_succ_cons, List.take_zero]
      repeat (refine flowG_known0 (by kernel_rfl) (by kernel_rfl) (fun K hK => ?_); go_simp; (first | (refine hK _ ?_; clear hK K) | (apply Exists.intro; refine ⟨fun _ => ?_, hK _ ?_⟩; (fail); clear hK K)))
      refine flowG_keep [] (LitP 69 [.bool x.src.slot, .int .i64 x.src.n, .bool x.dst.slot, .int .i64 x.dst.n] 1) (by kernel_rfl) (LitP.stable_ rfl) (by kernel_rfl) ?_ ?_
      · intro u hu
        try simp only [List.nil_append, List.cons_append, useH_f, useH_t, useH_nil]
        go_simp
        exact ⟨LitP.mk_ (us := [.bool x.src.slot, .int .i64 x.src.n, .bool x.dst.slot, .int .i64 x.dst.n]) (by rw [size_ext]), onW_row_alloc hu⟩
      refine flowG_keep [true] (PushP w.heap.size 69 (fun _ => False) u3.ownBlock wr.heap.size (xs.take k ++ [x])) (by kernel_rfl) (PushP.stable_ rfl) (by kernel_rfl) ?_ ?_
      · intro u hu
        try simp only [List.nil_append, List.cons_append, useH_f, useH_t, useH_nil]
        intro v1 hv1
        exact HeldAt.push_own (α := Move) rfl (.tmp 11) (.tmp 23) 29 rfl w.heap.size 69 i0 _ 32 Try.underlying29 HI0.out HZ.out HZ1.out HZ2.out rfl (by decide) (fun _ => False) (fun _ => False) u3 _ x [.bool x.src.slot, .int .i64 x.src.n, .bool x.dst.slot, .int .i64 x.dst.n] 69 rfl (HOQ.out.ext u) (by go_simp) hv1
          (Move.mk_ HX1.out HX2.out) (fun _ h => h.elim) (fun g hg h => h) (fun b h => h.elim) (by omega) (by omega) (by rw [size_ext]; omega) hu
      refine flowG_done [false, true] (by kernel_rfl) ?_
      intro w6 h6
      simp only [List.nil_append, List.cons_append, endH_f, endH_t, endH_nil]
      rintro v8 v9 ⟨hown9, hv9, _⟩
      have HO9 := hide (show OwnL w6 w.heap.size 69 (fun _ => False) v9 (xs.take (k + 1)) by rw [HTA.out]; exact hown9)
      have HB9 := hide (HBQ.out.grown h6 hwq fun r e => (hoB r e).1)
      clear hown9 hv9 h6
      go_wp2_with fail
      first
        | (go_roundw; case rel => exact ⟨k + 1, by omega, by go_num, HO9.out, HB9.out⟩; case measure => simp [intOf]; omega)
        | exact ⟨⟨k + 1, by omega, by go_num, HO9.out, HB9.out⟩, by simp [intOf]; omega⟩
    · have hkn : k = n := by omega
      subst hkn
      have hlk : xs.take k = xs := List.take_of_length_le (by rw [HL.out]; exact Nat.le_refl _)
      rw [hlk] at HOQ
      obtain ⟨A', c', rfl⟩ := HOQ.out.form
      go_wp2_with fail
      go_ret
      exact RetO.mk_ HOQ.out (fun _ h => h.elim) HBQ.out
set_option maxRecDepth 100000 in
set_option maxHeartbeats 4000000 in
theorem same26_any (w : World) (S S' : Nat → Prop) (A A' : Option Addr) (n c c' : Nat) (xs : List Move) (h : Sl w S A n c xs) (h' : Sl w S' A' n c' xs) :
    Calls Try.prog 15 #[.slice A n c, .slice A' n c'] w (RetX (.bool true) w) := by
  have hn := h.nle
  have HS := hide h; have HS' := hide h'
  clear h h'
  go_enter Try.func15, Try.ntmps15
  go_wp2_with fail
  go_loopw [5] (fun i wr => ∃ k : Nat, k ≤ n ∧ i = .int .i64 k ∧ ∃ u, wr = w.ext u) (fun i _ => n - (intOf i).toNat)
  case atStart => exact ⟨0, Nat.zero_le _, rfl, ext_refl _⟩
  case round =>
    obtain ⟨k, hk, rfl, u, hwu⟩ := hrel
    have HBW := hide (show Below w.heap.size w wr by rw [hwu]; exact Below.of_ext w u (Nat.le_refl _))
    clear hwu
    by_cases hlt : k < n
    · obtain ⟨b, off, x, rfl, hb, hx, -, -, c0, c1, c2, c3⟩ := at_Move (HS.out.belowAll HBW.out) hlt
      obtain ⟨b', off', x', rfl, hb', hx', -, -, d0, d1, d2, d3⟩ := at_Move (HS'.out.belowAll HBW.out) hlt
      obtain rfl := some_eq hx hx'
      clear hx hx'
      have hki : (k : Int) < n := by omega
      have EQ1 : ∀ w : World, (Op.equalIn 10000 40 (.agg #[.bool x.src.slot, .int .i64 x.src.n]) (.agg #[.bool x.src.slot, .int .i64 x.src.n])).run Try.prog w = .ok true w := fun w => by have h := eq_loc_run x.src x.src w; rw [decide_eq_true rfl] at h; exact h
      have EQ2 : ∀ w : World, (Op.equalIn 10000 40 (.agg #[.bool x.dst.slot, .int .i64 x.dst.n]) (.agg #[.bool x.dst.slot, .int .i64 x.dst.n])).run Try.prog w = .ok true w := fun w => by have h := eq_loc_run x.dst x.dst w; rw [decide_eq_true rfl] at h; exact h
      go_wp2_with fail
      refine wp_region_flow_ext [] [] (by kernel_rfl) rfl (by kernel_rfl) ?_
      repeat (refine flow_known (by kernel_rfl) (fun K hK => ?_); go_simp; (first | (refine hK _ ?_; clear hK K) | (apply Exists.intro; refine ⟨fun _ => ?_, hK _ ?_⟩; (fail); clear hK K)))
      refine flow_done [] (by kernel_rfl) ?_
      intro u2
      simp only [List.nil_append, List.cons_append, endH_f, endH_t, endH_nil]
      go_wp2_with fail
      go_roundw
      case rel => exact ⟨k + 1, by omega, by go_num, Below.to_ext (HBW.out.ext HBW.out.size u2)⟩
      case measure => simp [intOf]; omega
    · go_wp2_with fail
      go_ret
      exact RetX.b rfl HBW.out
end Go.Proofs.Ytoghikagooegbaa
