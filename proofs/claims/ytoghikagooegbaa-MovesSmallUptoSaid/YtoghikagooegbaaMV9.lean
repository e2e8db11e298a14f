/- Walks: the program's moves: Rings. -/
import Derived.Test.YtoghikagooegbaaMV8
set_option linter.unusedSimpArgs false
set_option linter.unusedVariables false
namespace Go.Proofs.Ytoghikagooegbaa
open Go.RowKit Go.Maps

theorem firstT_at {xs : List Move} {k : Nat} (hk : k < 400) (h : ∀ j, j < k → namesM xs (spL (j : Nat)) = true) (hn : namesM xs (spL (k : Nat)) = false) : firstT xs = k := by
  unfold firstT
  have : (List.range 400).find? (fun n : Nat => !namesM xs (spL n)) = some k := by
    rw [List.find?_range_eq_some]
    exact ⟨by simp [hn], by simpa using hk, fun j hj => by simp [h j hj]⟩
  rw [this]; rfl
theorem firstT_end {xs : List Move} (h : ∀ j, j < 400 → namesM xs (spL (j : Nat)) = true) : firstT xs = 400 := by
  unfold firstT
  have : (List.range 400).find? (fun n : Nat => !namesM xs (spL n)) = none := by
    rw [List.find?_eq_none]
    intro j hj
    simp [h j (List.mem_range.1 hj)]
  rw [this]; rfl
theorem ringsN_take {s : Loc} {r : List Move} {k : Nat} {x : Move} (h : r[k]? = some x) : ringsN s (r.take (k + 1)) = ringsN s (r.take k) + if x.dst = s then 1 else 0 := by
  unfold ringsN
  rw [take_at h, List.countP_append]
  by_cases hx : x.dst = s <;> simp [hx]
theorem firstT_le (xs : List Move) : firstT xs ≤ 400 := by
  unfold firstT
  cases h : (List.range 400).find? (fun n : Nat => !namesM xs (spL n)) with
  | none => simp
  | some k => have := List.mem_range.1 (List.mem_of_find?_eq_some h); simp; omega
theorem assert_put (a b : Int) (w : World) : (Instr.typeAssert (.iface 74 (.agg #[.int .i64 a, .int .i64 b])) 65 74 true).run Try.prog w = .ok (.tuple #[.agg #[.int .i64 a, .int .i64 b], .bool true]) w := by kernel_rfl
theorem assert_get (v : Value) (w : World) : (Instr.typeAssert (.iface 122 v) 65 74 true).run Try.prog w = .ok (.tuple #[.agg #[.int .i64 0, .int .i64 0], .bool false]) w := by kernel_rfl
theorem assert_move (v : Value) (w : World) : (Instr.typeAssert (.iface 124 v) 65 74 true).run Try.prog w = .ok (.tuple #[.agg #[.int .i64 0, .int .i64 0], .bool false]) w := by kernel_rfl
theorem stepV_cases (x : Move) : (stepV x = .iface 74 (.agg #[.int .i64 x.dst.n, .int .i64 x.src.n]) ∧ x.dst.slot = true) ∨
    (stepV x = .iface 122 (.agg #[.int .i64 x.dst.n, .int .i64 x.src.n]) ∧ x.dst.slot = false) ∨
    (stepV x = .iface 124 (.agg #[.int .i64 x.dst.n, .int .i64 x.src.n]) ∧ x.dst.slot = false) := by
  unfold stepV
  cases h1 : x.dst.slot
  · cases h2 : x.src.slot
    · exact .inr (.inr (by simp))
    · exact .inr (.inl (by simp))
  · exact .inl (by simp)
set_option maxRecDepth 100000 in
set_option maxHeartbeats 8000000 in
theorem rings_any (w : World) (S : Nat → Prop) (A : Option Addr) (n c : Nat) (xs : List Move) (h : Sl w S A n c xs) (hm : n ≤ 1048576) :
    Calls Try.prog 17 #[.slice A n c] w (RetX (.int .i64 (ringsM xs : Nat)) w) := by
  have HS := hide h
  have hbl := busy_le xs
  rw [h.len] at hbl
  clear h
  go_enter Try.func17, Try.ntmps17
  go_wp2_with fail
  go_loopw [3] (fun i wr => ∃ k : Nat, k ≤ 400 ∧ i = .int .i64 k ∧ (∀ j, j < k → namesM xs (spL (j : Nat)) = true) ∧ ∃ u : Ext, wr = w.ext u) (fun i _ => 400 - (intOf i).toNat)
  case atStart => exact ⟨0, Nat.zero_le _, rfl, fun j hj => absurd hj (by omega), ext_refl _⟩
  case round =>
    obtain ⟨k, hk, rfl, hnm, u, rfl⟩ := hrel
    have HNM := hide hnm
    clear hnm
    have HSP := hide (fun W => spare_any W (k : Nat))
    obtain ⟨q, hq⟩ : ∃ q, namesM xs (spL (k : Nat)) = q := ⟨_, rfl⟩
    have HNA := hide (fun u u' : Ext => show Calls Try.prog 33 #[.slice A n c, .agg #[.bool true, .int .i64 (k : Nat)]] ((w.ext u).ext u') (RetX (.bool q) ((w.ext u).ext u')) from hq ▸ names_any ((w.ext u).ext u') _ A n c xs ((HS.out.ext u).ext u') (spL (k : Nat)))
    have HQ := hide hq
    clear hq
    by_cases hlt : k < 400
    · have hki : (k : Int) < 400 := by omega
      cases q with
      | true =>
        go_wp2_with (first
          | (go_at_call 31; (with_reducible refine (HSP.out _).mono ?_); rintro e _ ⟨rfl, u1, rfl⟩)
          | (go_at_call 33; (with_reducible refine (HNA.out _ _).mono ?_); rintro e _ ⟨rfl, u2, rfl⟩))
        go_roundw
        case rel =>
          refine ⟨k + 1, by omega, by go_num, fun j hj => ?_, Below.to_ext (((Below.of_ext w u (Nat.le_refl _)).ext (by rw [size_ext]; omega) u1).ext (by simp only [size_ext]; omega) u2)⟩
          rcases Nat.lt_or_ge j k with h | h
          · exact HNM.out j h
          · obtain rfl : j = k := by omega
            exact HQ.out
        case measure => simp [intOf]; omega
      | false =>
        have HFT := hide (firstT_at hlt HNM.out HQ.out)
        obtain ⟨r, hr⟩ : ∃ r, rightM' xs (spL (k : Nat)) = r := ⟨_, rfl⟩
        have HRT := hide (fun u u1 u2 : Ext => show Calls Try.prog 12 #[.slice A n c, .int .i64 (k : Nat)] (((w.ext u).ext u1).ext u2) (RetX (.bool r) (((w.ext u).ext u1).ext u2)) from hr ▸ mright_any _ S A n c xs (((HS.out.ext u).ext u1).ext u2) hm k (ini_ (by omega)))
        have HRG := hide (show ringsM xs = if r = true then ringsN (spL (k : Nat)) (rowOf (spL (k : Nat)) (busyM xs)) else 0 by unfold ringsM; rw [HFT.out, hr])
        cases r with
        | false =>
          clear hr
          go_wp2_with (first
            | (go_at_call 31; (with_reducible refine (HSP.out _).mono ?_); rintro e _ ⟨rfl, u1, rfl⟩)
            | (go_at_call 33; (with_reducible refine (HNA.out _ _).mono ?_); rintro e _ ⟨rfl, u2, rfl⟩)
            | (go_at_call 12; (with_reducible refine (HRT.out _ _ _).mono ?_); rintro e _ ⟨rfl, u3, rfl⟩))
          go_ret
          exact RetX.i (by rw [HRG.out]; rfl) (((Below.of_ext w u (Nat.le_refl _)).ext (by rw [size_ext]; omega) u1).ext (by simp only [size_ext]; omega) u2 |>.ext (by simp only [size_ext]; omega) u3)
        | true =>
          have HRW := hide (fun u u1 u2 u3 : Ext => row_any ((((w.ext u).ext u1).ext u2).ext u3) S A n c xs ((((HS.out.ext u).ext u1).ext u2).ext u3) hm k (ini_ (by omega)) (right_dst hr))
          have hrl := rowOf_le (spL (k : Nat)) (busyM xs)
          obtain ⟨rs, hrs⟩ : ∃ rs, rowOf (spL (k : Nat)) (busyM xs) = rs := ⟨_, rfl⟩
          rw [hrs] at HRW HRG hrl
          rw [if_pos rfl] at HRG
          clear hrs hr
          go_wp2_with (first
            | (go_at_call 31; (with_reducible refine (HSP.out _).mono ?_); rintro e _ ⟨rfl, u1, rfl⟩)
            | (go_at_call 33; (with_reducible refine (HNA.out _ _).mono ?_); rintro e _ ⟨rfl, u2, rfl⟩)
            | (go_at_call 12; (with_reducible refine (HRT.out _ _ _).mono ?_); rintro e _ ⟨rfl, u3, rfl⟩)
            | (go_at_call 27; (with_reducible refine (HRW.out _ _ _ _).mono ?_); rintro e _ ⟨A2, n2, c2, S2, rfl, ho, hS, u4, rfl⟩; have HO := hide ho; clear ho hS; refine Hd.out ?_))
          obtain ⟨W, hW⟩ : ∃ W, ((((w.ext u).ext u1).ext u2).ext u3).ext u4 = W := ⟨_, rfl⟩
          have HBW := hide (show Below w.heap.size w W by rw [← hW]; exact (((Below.of_ext w u (Nat.le_refl _)).ext (by rw [size_ext]; omega) u1).ext (by simp only [size_ext]; omega) u2 |>.ext (by simp only [size_ext]; omega) u3 |>.ext (by simp only [size_ext]; omega) u4))
          have HSL := hide (show Sl W (fun _ => True) A2 n2 c2 (rs.map Stp.mk) by rw [← hW]; exact HO.out.sl fun _ _ _ => trivial)
          have hn2 : rs.length = n2 := by have := HSL.out.len; rwa [List.length_map] at this
          have HN2 := hide hn2
          have hn2b : n2 ≤ 2097153 := by omega
          have hwW := HBW.out.size
          rw [hW]
          clear hW HO hn2 HRT HRW hrl HFT HSP HNA HNM HQ hbl
          refine hide ?_
          go_wp2_with fail
          go_loopw [4, 27] (fun o i wr => ∃ j : Nat, j ≤ n2 ∧ i = .int .i64 j ∧ o = .int .i64 (ringsN (spL (k : Nat)) (rs.take j) : Nat) ∧ ∃ u : Ext, wr = W.ext u) (fun _ i _ => n2 - (intOf i).toNat)
          case atStart => exact ⟨0, Nat.zero_le _, rfl, rfl, ext_refl _⟩
          case round =>
            obtain ⟨j, hj, rfl, rfl, u, rfl⟩ := hrel
            have hwq : W.heap.size ≤ (W.ext u).heap.size := by rw [size_ext]; omega
            by_cases hlt2 : j < n2
            · obtain ⟨b, off, x, rfl, hb, hx, hx1, hx2, c0⟩ := at_Stp (HSL.out.ext u) hlt2
              have HRT := hide (ringsN_take (s := spL (k : Nat)) hx)
              have hji : (j : Int) < n2 := by omega
              have hrn : ringsN (spL (k : Nat)) (rs.take j) ≤ j := Nat.le_trans List.countP_le_length (by rw [List.length_take]; omega)
              obtain ⟨rv, hrv⟩ : ∃ rv, ringsN (spL (k : Nat)) (rs.take j) = rv := ⟨_, rfl⟩
              rw [hrv] at hrn ⊢
              rw [hrv] at HRT
              clear hx hx1 hx2 hrv
              have ap := assert_put; have ag := assert_get; have am := assert_move
              have hwr : IntKind.i64.wrap ((rv : Int) + 1) = (rv : Int) + 1 := IntWalk.i64_in _ (by omega)
              rcases stepV_cases x with ⟨e1, e2⟩ | ⟨e1, e2⟩ | ⟨e1, e2⟩
              · rw [e1] at c0
                obtain ⟨q, hq⟩ : ∃ q, decide (x.dst.n = (k : Int)) = q := ⟨_, rfl⟩
                cases q with
                | true =>
                  have hxk : x.dst.n = (k : Int) := by simpa using hq
                  have HE := hide (show x.dst = spL (k : Nat) by obtain ⟨_, ⟨s, m⟩⟩ := x; simp only at e2 hxk; rw [e2, hxk]; rfl)
                  rw [if_pos HE.out] at HRT
                  rw [hxk] at c0
                  clear hq e1 e2 hxk
                  go_wp2_with fail
                  first
                    | (go_roundw; case rel => exact ⟨j + 1, by omega, by go_num, by rw [HRT.out]; go_num, Below.to_ext (((Below.of_ext W u (Nat.le_refl _))).alloc hwq _)⟩; case measure => simp [intOf]; omega)
                    | exact ⟨⟨j + 1, by omega, by go_num, by rw [HRT.out]; go_num, Below.to_ext (((Below.of_ext W u (Nat.le_refl _))).alloc hwq _)⟩, by simp [intOf]; omega⟩
                | false =>
                  have hxk : ¬ x.dst.n = (k : Int) := by simpa using hq
                  have HE := hide (show x.dst ≠ spL (k : Nat) from fun e => hxk (by rw [e]; rfl))
                  rw [if_neg HE.out] at HRT
                  clear hq e1 e2
                  go_wp2_with fail
                  first
                    | (go_roundw; case rel => exact ⟨j + 1, by omega, by go_num, by rw [HRT.out]; rfl, Below.to_ext (((Below.of_ext W u (Nat.le_refl _))).alloc hwq _)⟩; case measure => simp [intOf]; omega)
                    | exact ⟨⟨j + 1, by omega, by go_num, by rw [HRT.out]; rfl, Below.to_ext (((Below.of_ext W u (Nat.le_refl _))).alloc hwq _)⟩, by simp [intOf]; omega⟩
              all_goals
                rw [e1] at c0
                have HE := hide (show x.dst ≠ spL (k : Nat) from fun e => by rw [e] at e2; cases e2)
                rw [if_neg HE.out] at HRT
                clear e1 e2
                go_wp2_with fail
                first
                  | (go_roundw; case rel => exact ⟨j + 1, by omega, by go_num, by rw [HRT.out]; rfl, Below.to_ext (((Below.of_ext W u (Nat.le_refl _))).alloc hwq _)⟩; case measure => simp [intOf]; omega)
                  | exact ⟨⟨j + 1, by omega, by go_num, by rw [HRT.out]; rfl, Below.to_ext (((Below.of_ext W u (Nat.le_refl _))).alloc hwq _)⟩, by simp [intOf]; omega⟩
            · have hkn : j = n2 := by omega
              subst hkn
              have hlk : rs.take j = rs := List.take_of_length_le (by rw [HN2.out]; exact Nat.le_refl _)
              rw [hlk]
              go_wp2_with fail
              go_ret
              exact RetX.i (by rw [HRG.out]) (HBW.out.ext hwW u)
    · have hkn : k = 400 := by omega
      subst hkn
      have HR4 := hide (show rightM' xs (spL (400 : Nat)) = false by unfold rightM'; rw [show okL (spL (400 : Nat)) = false by decide]; rfl)
      have HRT := hide (fun u : Ext => show Calls Try.prog 12 #[.slice A n c, .int .i64 400] (w.ext u) (RetX (.bool false) (w.ext u)) from HR4.out ▸ mright_any _ S A n c xs (HS.out.ext u) hm (400 : Nat) (ini_ (by omega)))
      go_wp2_with (go_at_call 12; (with_reducible refine (HRT.out _).mono ?_); rintro e _ ⟨rfl, u3, rfl⟩)
      go_ret
      refine RetX.i ?_ ((Below.of_ext w u (Nat.le_refl _)).ext (by rw [size_ext]; omega) u3)
      unfold ringsM
      rw [firstT_end HNM.out, HR4.out]; rfl
end Go.Proofs.Ytoghikagooegbaa
