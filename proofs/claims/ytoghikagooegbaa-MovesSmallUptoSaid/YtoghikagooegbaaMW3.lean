/- Walks: the document's moves: first. -/
import Derived.Test.YtoghikagooegbaaN4
set_option linter.unusedSimpArgs false
set_option linter.unusedVariables false
namespace Go.Proofs.Ytoghikagooegbaa
open Go.RowKit Go.Maps

theorem yield_undef : (match (some undef : Option Value) with | some (Value.bool b) => some b | _ => none) = none := rfl
theorem goesB_all (l : List Move) (p : Loc) : goesB l p = !l.all (fun y => !decide (y.src = p)) := by
  unfold goesB
  induction l with
  | nil => rfl
  | cons a l ih => simp only [List.any_cons, List.all_cons, ih, Bool.not_and, Bool.not_not]
theorem readyI_some {l : List Move} {k : Nat} {x : Move} (hx : l[k]? = some x) (hf : goesB l x.dst = false) (h : ∀ (i : Nat) (y : Move), i < k → l[i]? = some y → goesB l y.dst = true) : readyI l = (k : Int) := by
  have hk : k < l.length := (List.getElem?_eq_some_iff.1 hx).1
  have e : readyM l = some k := by
    unfold readyM
    rw [List.findIdx?_eq_some_iff_getElem]
    refine ⟨hk, ?_, fun j hj => ?_⟩
    · rw [List.getElem?_eq_getElem hk] at hx
      injection hx with hx
      rw [hx, hf]; rfl
    · have := h j (l[j]'(by omega)) hj (List.getElem?_eq_getElem (by omega))
      rw [this]; decide
  unfold readyI; rw [e]
theorem readyI_none {l : List Move} (h : ∀ (i : Nat) (y : Move), l[i]? = some y → goesB l y.dst = true) : readyI l = -1 := by
  have e : readyM l = none := by
    unfold readyM
    rw [List.findIdx?_eq_none_iff]
    intro y hy
    obtain ⟨i, hi⟩ := List.mem_iff_getElem?.1 hy
    rw [h i y hi]; rfl
  unfold readyI; rw [e]
set_option maxRecDepth 100000 in
set_option maxHeartbeats 16000000 in
theorem firstD_any (w : World) (S : Nat → Prop) (A : Option Addr) (n c : Nat) (xs : List Move) (h : Sl w S A n c xs) (hne : ∀ m ∈ xs, m.src ≠ m.dst) :
    Calls Try.prog 41 #[.slice A n c] w (RetX (.int .i64 (readyI xs)) w) := by
  have hnle := h.nle
  have HL := hide h.len
  have HS := hide h
  have HNE := hide hne
  clear h hne
  go_enter Try.func41, Try.ntmps41
  go_wp2_with fail
  go_loopw [3] (fun i wr => ∃ k : Nat, k ≤ n ∧ i = .int .i64 k ∧ (∀ (j : Nat) (y : Move), j < k → xs[j]? = some y → goesB xs y.dst = true) ∧ Below w.heap.size w wr) (fun i _ => n - (intOf i).toNat)
  case atStart => exact ⟨0, Nat.zero_le _, rfl, fun j y hj => absurd hj (by omega), Below.refl _ _⟩
  case round =>
    obtain ⟨k, hk, rfl, hgo, hbq⟩ := hrel
    have HGO := hide hgo
    have HBQ := hide hbq
    have hwq := hbq.size
    clear hgo hbq
    by_cases hlt : k < n
    · have hki : (k : Int) < n := by omega
      obtain ⟨x, hx⟩ : ∃ x, xs[k]? = some x := ⟨_, List.getElem?_eq_getElem (by rw [HL.out]; exact hlt)⟩
      have HX := hide hx
      have hxn := HNE.out x (List.mem_of_getElem? hx)
      clear hx
      go_wp2_with fail
      go_loopw [4, 5] (fun f i wq => ∃ j : Nat, j ≤ n ∧ i = .int .i64 j ∧ f = .bool ((xs.take j).all (fun y => !decide (y.src = x.dst))) ∧ Below w.heap.size w wq) (fun _ i _ => n - (intOf i).toNat)
      case atStart => exact ⟨0, Nat.zero_le _, rfl, rfl, HBQ.out⟩
      clear HBQ hwq
      case round =>
        obtain ⟨j, hj, rfl, rfl, hbq⟩ := hrel
        have HBQ := hide hbq
        have hwq := hbq.size
        clear hbq
        by_cases hlj : j < n
        · have hji : (j : Int) < n := by omega
          obtain ⟨b, off, y, rfl, hb, hy, -, -, y0, y1, y2, y3⟩ := at_Move (HS.out.belowAll HBQ.out) hlj
          obtain ⟨b', off', x', eA, hb', hx', -, -, x0, x1, x2, x3⟩ := at_Move (HS.out.belowAll HBQ.out) hlt
          injection eA with eA
          simp only [Addr.mk.injEq, and_true] at eA
          obtain ⟨rfl, rfl⟩ := eA
          obtain rfl : x' = x := by have := hx'.symm.trans HX.out; injection this
          have HTA := hide (take_at hy)
          obtain ⟨fr, hfr⟩ : ∃ fr, (xs.take j).all (fun y => !decide (y.src = x'.dst)) = fr := ⟨_, rfl⟩
          obtain ⟨q, hq⟩ : ∃ q, decide (y.src = x'.dst) = q := ⟨_, rfl⟩
          have HFR := hide (show (xs.take (j + 1)).all (fun y => !decide (y.src = x'.dst)) = (fr && !q) by rw [HTA.out, List.all_append, hfr]; simp [hq])
          have EQ : ∀ w : World, (Op.equalIn 10000 40 (.agg #[.bool y.src.slot, .int .i64 y.src.n]) (.agg #[.bool x'.dst.slot, .int .i64 x'.dst.n])).run Try.prog w = .ok q w := fun w => hq ▸ eq_loc_run y.src x'.dst w
          rw [hfr]
          by_cases hjk : j = k
          · have hyx : y = x' := by rw [hjk] at hy; have := hy.symm.trans HX.out; injection this
            have hqf : q = false := by rw [← hq, hyx]; exact decide_eq_false hxn
            have hjq : ((j : Int) == (k : Int)) = true := by simp [hjk]
            subst hqf
            clear hq hyx hjk HTA hfr hx' hy EQ
            cases fr with
            | true =>
              go_wp2_with fail
              refine wp_region_flow_ext [] [] (by kernel_rfl) rfl (by kernel_rfl) ?_
              repeat (refine flow_known (by kernel_rfl) (fun K hK => ?_); go_simp; (first | (refine hK _ ?_; clear hK K) | (refine ⟨undef, (by intros; rw [if_neg (by decide)]), hK _ ?_⟩; clear hK K) | (apply Exists.intro; refine ⟨fun _ => ?_, hK _ ?_⟩; (fail); clear hK K)))
              refine flow_done [] (by kernel_rfl) ?_
              intro u3
              simp only [List.nil_append, List.cons_append, endH_f, endH_t, endH_nil]
              go_wp2_with fail
              first
                | (go_roundw; case rel => exact ⟨j + 1, by omega, by go_num, by rw [HFR.out]; rfl, HBQ.out.ext hwq u3⟩; case measure => simp [intOf]; omega)
                | exact ⟨⟨j + 1, by omega, by go_num, by rw [HFR.out]; rfl, HBQ.out.ext hwq u3⟩, by simp [intOf]; omega⟩
            | false =>
              go_wp2_with fail
              refine wp_region_flow_ext [] [] (by kernel_rfl) rfl (by kernel_rfl) ?_
              repeat (refine flow_known (by kernel_rfl) (fun K hK => ?_); go_simp; (first | (refine hK _ ?_; clear hK K) | (refine ⟨undef, (by intros; rw [if_neg (by decide)]), hK _ ?_⟩; clear hK K) | (apply Exists.intro; refine ⟨fun _ => ?_, hK _ ?_⟩; (fail); clear hK K)))
              refine flow_done [] (by kernel_rfl) ?_
              intro u3
              simp only [List.nil_append, List.cons_append, endH_f, endH_t, endH_nil]
              go_wp2_with fail
              first
                | (go_roundw; case rel => exact ⟨j + 1, by omega, by go_num, by rw [HFR.out]; rfl, HBQ.out.ext hwq u3⟩; case measure => simp [intOf]; omega)
                | exact ⟨⟨j + 1, by omega, by go_num, by rw [HFR.out]; rfl, HBQ.out.ext hwq u3⟩, by simp [intOf]; omega⟩
          · have hjq : ((j : Int) == (k : Int)) = false := by simp; omega
            clear hq hjk HTA hfr hx' hy
            cases fr with
            | true =>
              go_wp2_with fail
              refine wp_region_flow_ext [] [] (by kernel_rfl) rfl (by kernel_rfl) ?_
              repeat (refine flow_known (by kernel_rfl) (fun K hK => ?_); go_simp; (first | (refine hK _ ?_; clear hK K) | (refine ⟨undef, (by intros; rw [if_neg (by decide)]), hK _ ?_⟩; clear hK K) | (apply Exists.intro; refine ⟨fun _ => ?_, hK _ ?_⟩; (fail); clear hK K)))
              refine flow_done [] (by kernel_rfl) ?_
              intro u3
              simp only [List.nil_append, List.cons_append, endH_f, endH_t, endH_nil]
              go_wp2_with fail
              first
                | (go_roundw; case rel => exact ⟨j + 1, by omega, by go_num, by rw [HFR.out]; rfl, HBQ.out.ext hwq u3⟩; case measure => simp [intOf]; omega)
                | exact ⟨⟨j + 1, by omega, by go_num, by rw [HFR.out]; rfl, HBQ.out.ext hwq u3⟩, by simp [intOf]; omega⟩
            | false =>
              go_wp2_with fail
              refine wp_region_flow_ext [] [] (by kernel_rfl) rfl (by kernel_rfl) ?_
              repeat (refine flow_known (by kernel_rfl) (fun K hK => ?_); go_simp; (first | (refine hK _ ?_; clear hK K) | (refine ⟨undef, (by intros; rw [if_neg (by decide)]), hK _ ?_⟩; clear hK K) | (apply Exists.intro; refine ⟨fun _ => ?_, hK _ ?_⟩; (fail); clear hK K)))
              refine flow_done [] (by kernel_rfl) ?_
              intro u3
              simp only [List.nil_append, List.cons_append, endH_f, endH_t, endH_nil]
              go_wp2_with fail
              first
                | (go_roundw; case rel => exact ⟨j + 1, by omega, by go_num, by rw [HFR.out]; rfl, HBQ.out.ext hwq u3⟩; case measure => simp [intOf]; omega)
                | exact ⟨⟨j + 1, by omega, by go_num, by rw [HFR.out]; rfl, HBQ.out.ext hwq u3⟩, by simp [intOf]; omega⟩
        · have hjn : j = n := by omega
          have hlj2 : decide ((j : Int) < n) = false := by simp; omega
          have hlk : xs.take j = xs := List.take_of_length_le (by rw [HL.out]; omega)
          rw [hlk]
          obtain ⟨gb, hgb⟩ : ∃ gb, goesB xs x.dst = gb := ⟨_, rfl⟩
          have hal : xs.all (fun y => !decide (y.src = x.dst)) = !gb := by rw [← hgb, goesB_all]; simp
          rw [hal]
          clear hjn hlk hal
          cases gb with
          | false =>
            have HRI := hide (readyI_some HX.out hgb HGO.out)
            clear hgb
            go_wp2_with fail
            go_ret
            exact RetX.i HRI.out.symm HBQ.out
          | true =>
            have HGN := hide (show ∀ (i : Nat) (y : Move), i < k + 1 → xs[i]? = some y → goesB xs y.dst = true from fun i y hi hy => by
              rcases Nat.lt_or_ge i k with h | h
              · exact HGO.out i y h hy
              · obtain rfl : i = k := by omega
                obtain rfl : x = y := by have := HX.out.symm.trans hy; injection this
                exact hgb)
            clear hgb
            go_wp2_with fail
            first
              | (go_roundw; case rel => exact ⟨k + 1, by omega, by go_num, HGN.out, HBQ.out⟩; case measure => simp [intOf]; omega)
              | exact ⟨⟨k + 1, by omega, by go_num, HGN.out, HBQ.out⟩, by simp [intOf]; omega⟩
    · have hkn : k = n := by omega
      have hlk : decide ((k : Int) < n) = false := by simp; omega
      have HRI := hide (readyI_none (l := xs) fun i y hy => HGO.out i y (by have := (List.getElem?_eq_some_iff.1 hy).1; rw [HL.out] at this; omega) hy)
      clear hkn
      go_wp2_with fail
      go_ret
      exact RetX.i HRI.out.symm HBQ.out
end Go.Proofs.Ytoghikagooegbaa
