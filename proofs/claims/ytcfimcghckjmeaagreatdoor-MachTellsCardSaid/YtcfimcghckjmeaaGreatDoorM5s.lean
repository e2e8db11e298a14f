/- law05: walks: the document's Keeps; facts that are the same. -/
import Derived.Test.YtcfimcghckjmeaaGreatDoorM5p
import Derived.Test.YtcfimcghckjmeaaGreatDoorEq3
set_option linter.unusedSimpArgs false
set_option linter.unusedVariables false
namespace Go.Proofs.YtcfimcghckjmeaaGreatDoor
open Go.RowKit

def SlIk {α : Type} [Rep α] (n : Nat) (xs : List α) : Nat → Nat → Post := fun lo hi v w => ∃ A c, v = .slice A n c ∧ Sl w (fun b => lo ≤ b ∧ b < hi) A n c xs
theorem SlIk.stable_ {α : Type} [Rep α] {F : World → Prop} {n : Nat} {xs : List α} {mem : Bool} (hm : mem = true) (lo hi : Nat) : stable F mem (SlIk n xs lo hi) :=
  stable_mem hm fun _ _ u ⟨A, c, hv, h⟩ => ⟨A, c, hv, h.ext u⟩
theorem Fact.is_more {w w' : World} {S S' : Nat → Prop} {x : Fact} {vs : List Value} (h : Rep.is w S x vs) : Rep.is w' S' x vs := by
  obtain ⟨rfl, h0, h1⟩ := Fact.open_ h
  exact Fact.mk_ h0 h1
theorem RepL.facts_more {w w' : World} {S S' : Nat → Prop} {xs : List Fact} {us : List Value} (h : RepL w S xs us) : RepL w' S' xs us := by
  induction xs generalizing us with
  | nil => exact h
  | cons x l ih => obtain ⟨us, ts, rfl, h1, h2⟩ := h; exact ⟨us, ts, rfl, Fact.is_more h1, ih h2⟩
theorem OwnL.facts {w : World} {base : Nat} {T : TypeId} {S : Nat → Prop} {v : Value} {xs : List Fact} (h : OwnL w base T S v xs) : OwnL w base T (fun _ => False) v xs := by
  obtain ⟨vals, h1, h2, _⟩ := h
  exact ⟨vals, h1, RepL.facts_more h2, fun _ _ h => h⟩
set_option maxRecDepth 100000 in
set_option maxHeartbeats 8000000 in
theorem dkeeps5_any (w : World) (S1 S2 : Nat → Prop) (m : Machine) (A1 A2 : Option Addr) (n1 c1 n2 c2 : Nat) (h1 : Sl w S1 A1 n1 c1 m.args) (h2 : Sl w S2 A2 n2 c2 m.saved) :
    Calls Tryz.prog 22 #[.agg #[.int .i64 m.regs, .slice A1 n1 c1, .int .i64 m.ret, .slice A2 n2 c2]] w (RetO 74 (keepsM m) w) := by
  obtain ⟨i0, hi, hz, hz1, hz2⟩ := info_parts info_Fact
  have HI0 := hide hi; have HZ := hide hz; have HZ1 := hide hz1; have HZ2 := hide hz2
  clear hi hz hz1 hz2
  obtain ⟨g, hg⟩ : ∃ g, w.heap.size = g := ⟨_, rfl⟩
  have HGQ := hide hg
  have HL2 := hide h2.len
  have hn2 := h2.nle
  obtain ⟨W0, hW0⟩ : ∃ W0, w.alloc (.cells #[.int .i64 m.regs, .slice A1 n1 c1, .int .i64 m.ret, .slice A2 n2 c2] 25) = W0 := ⟨_, rfl⟩
  have HROW := hide (show W0.heap[g]? = some (.cells #[.int .i64 m.regs, .slice A1 n1 c1, .int .i64 m.ret, .slice A2 n2 c2] 25 (0, 0)) by rw [← hW0, ← hg]; exact heap_alloc_new w _)
  have HZ0 := hide (show W0.heap.size = g + 1 by rw [← hW0, ← hg]; simp)
  have HB0 := hide (show Below g w W0 by rw [← hW0, ← hg]; exact (Below.refl _ _).alloc (Nat.le_refl _) _)
  have H1 := hide (show Sl W0 (fun b => b < W0.heap.size) A1 n1 c1 m.args by rw [← hW0]; exact (h1.alloc _).more fun b hb _ => hb)
  have H2 := hide (show Sl W0 (fun b => b < W0.heap.size) A2 n2 c2 m.saved by rw [← hW0]; exact (h2.alloc _).more fun b hb _ => hb)
  have HRI := hide (fun (W : World) (hb : Below W0.heap.size W0 W) => right5_any W _ _ m A1 A2 n1 c1 n2 c2 (H1.out.below hb fun _ h => h) (H2.out.below hb fun _ h => h))
  have HCE := hide (fun (W : World) (hb : Below W0.heap.size W0 W) => show W.cell? ⟨g, 0, none⟩ = some (.int .i64 m.regs) ∧ W.cell? ⟨g, 1, none⟩ = some (.slice A1 n1 c1) ∧ W.cell? ⟨g, 2, none⟩ = some (.int .i64 m.ret) ∧ W.cell? ⟨g, 3, none⟩ = some (.slice A2 n2 c2) ∧ g < W.heap.size from by
    have hr : W.heap[g]? = some (.cells #[.int .i64 m.regs, .slice A1 n1 c1, .int .i64 m.ret, .slice A2 n2 c2] 25 (0, 0)) := (hb.block g (by rw [HZ0.out]; omega)).trans HROW.out
    exact ⟨cell_of_row W g _ _ _ (0, 0) hr, cell_of_row W g _ _ _ (0, 0) hr, cell_of_row W g _ _ _ (0, 0) hr, cell_of_row W g _ _ _ (0, 0) hr, by have := hb.size; rw [HZ0.out] at this; omega⟩)
  cases hR : rightM m with
  | false =>
    have HG := hide (show keepsM m = [] by unfold keepsM; rw [hR]; rfl)
    rw [hR] at HRI
    obtain ⟨k0, k1, k2, k3, hgl⟩ := HCE.out W0 (Below.refl _ _)
    clear h1 h2 hR
    go_enter Tryz.func22, Tryz.ntmps22
    go_wp2_with fail
    go_loopw [3, 4] (fun o i wr => o = .slice none 0 0 ∧ i = .int .i64 0 ∧ wr = W0) (fun _ _ _ => 0)
    case atStart => exact ⟨rfl, rfl, rfl⟩
    case round =>
      obtain ⟨rfl, rfl, rfl⟩ := hrel
      go_wp2_with (go_at_call 15; refine (HRI.out _ (Below.refl _ _)).mono ?_; rintro e _ ⟨rfl, ux, rfl⟩)
      go_ret
      rw [HG.out]
      exact RetO.mk_ (OwnL.nil_ _ _ _ (fun _ => False)) (fun _ h => h.elim) (by rw [HGQ.out]; exact HB0.out.ext (by rw [HZ0.out]; omega) ux)
  | true =>
    have HG := hide (show keepsM m = m.saved.map keepF by unfold keepsM; rw [hR]; rfl)
    have HB := hide (show m.saved.length ≤ 64 ∧ ∀ x ∈ m.saved, 0 ≤ x ∧ x < 64 by
      simp only [rightM, Bool.and_eq_true, decide_eq_true_eq, Bool.not_eq_true'] at hR
      obtain ⟨⟨⟨⟨⟨⟨⟨⟨a1, a2⟩, a3⟩, a4⟩, a5⟩, a6⟩, a7⟩, a8⟩, a9⟩ := hR
      have b2 := ((savedOk_iff _ _ _).1 a9).1
      exact ⟨by omega, fun x hx => by have := b2 x hx; omega⟩)
    rw [hR] at HRI
    clear h1 h2 hR
    go_enter Tryz.func22, Tryz.ntmps22
    go_wp2_with fail
    clear hW0
    have hZw : g + 1 ≤ W0.heap.size := by rw [HZ0.out]; omega
    go_loopw [3, 4] (fun o i wr => ∃ (k ca : Nat) (Ao : Option Addr), o = .slice Ao k ca ∧ i = .int .i64 k ∧ k ≤ n2 ∧ OwnL wr (g + 1) 74 (fun _ => False) o ((m.saved.take k).map keepF) ∧ Below W0.heap.size W0 wr) (fun _ i _ => n2 - (intOf i).toNat)
    case atStart => exact ⟨0, 0, none, rfl, rfl, Nat.zero_le _, OwnL.nil_ _ _ _ _, Below.refl _ _⟩
    case round =>
      obtain ⟨k, ca, Ao, rfl, rfl, hk, hown, hb⟩ := hrel
      have HO := hide hown; have HBB := hide hb
      have hrs : g + 1 ≤ wr.heap.size := by have := hb.size; omega
      have HRW := hide (HRI.out wr hb)
      obtain ⟨k0, k1, k2, k3, hgl⟩ := HCE.out wr hb
      clear hown hb
      by_cases hlt : k < n2
      · obtain ⟨b, off, x, hA2, hbb, hx, _, hc⟩ := at_int (H2.out.below HBB.out fun _ h => h) hlt
        have HX := hide (show (m.saved.take (k + 1)).map keepF = (m.saved.take k).map keepF ++ [keepF x] by rw [take_at hx]; simp)
        obtain ⟨x0, x1⟩ := HB.out.2 x (List.mem_of_getElem? hx)
        have hwr : IntKind.i64.wrap (-1 - x) = -1 - x := IntWalk.i64_in _ (by omega)
        have HK := hide (show ((m.saved.take k).map keepF).length = k by have := HL2.out; simp; omega)
        have HK64 := hide (show k ≤ 64 by have := HB.out.1; have := HL2.out; omega)
        have HF := hide (show ∀ W, Rep.is W (fun _ => False) (keepF x) [.int .i64 (-1 - x), .bool false, .int .i64 x] from fun W => Fact.mk_ (x := keepF x) (by unfold InI keepF; simp only; omega) (by unfold InI keepF; simp only; omega))
        subst hA2
        clear hx
        go_wp2_with (go_at_call 15; refine HRW.out.mono ?_; rintro e _ ⟨rfl, ux, rfl⟩; refine Hd.out ?_)
        obtain ⟨w2, hw2⟩ : ∃ w2, wr.ext ux = w2 := ⟨_, rfl⟩
        have HO2 := hide (show OwnL w2 (g + 1) 74 (fun _ => False) (.slice Ao k ca) ((m.saved.take k).map keepF) by rw [← hw2]; exact HO.out.ext ux)
        have HB2 := hide (show Below W0.heap.size W0 w2 by rw [← hw2]; exact HBB.out.ext (by have := HBB.out.size; omega) ux)
        have hs2 : g + 1 ≤ w2.heap.size := by rw [← hw2, size_ext]; omega
        have hc2 : w2.cell? ⟨b, off + k, none⟩ = some (.int .i64 x) := by rw [← hw2]; exact (cell?_ext wr ux _ hbb).trans hc
        have hb2 : b < w2.heap.size := by rw [← hw2, size_ext]; omega
        obtain ⟨j0, j1, j2, j3, hgl2⟩ := HCE.out w2 HB2.out
        rw [hw2]
        clear hw2 k0 k1 k2 k3 hgl hrs HRW hc hbb
        refine hide ?_
        go_wp2_with fail
        refine wp_region_flowI [14] 15 (by kernel_rfl) rfl (by kernel_rfl) (by kernel_rfl) ?_
        simp only [List.take_succ_cons, List.take_zero, List.drop_succ_cons, List.drop_zero]
        repeat (refine flowI_known (by kernel_rfl) (fun K hK => ?_); go_simp; (first | (refine hK _ ?_; clear hK K) | (apply Exists.intro; refine ⟨fun _ => ?_, hK _ ?_⟩; (fail); clear hK K)))
        refine flowI_keep0 (SlIk 1 [keepF x]) (by kernel_rfl) (SlIk.stable_ rfl) ?_ ?_
        · intro u
          go_simp
          exact ⟨⟨_, _, rfl, Sl.lit (S := fun _ => False) (us := [.int .i64 (-1 - x), .bool false, .int .i64 x]) (size_ext ..).symm (RepL.single (HF.out _)) rfl (by decide) (fun _ h => h.elim) ⟨Nat.le_refl _, by simp [size_ext]⟩⟩, onW_alloc rfl ⟨u, rfl⟩⟩
        refine flowI_done [true] rfl ?_
        intro γ u hap
        simp only [List.nil_append, List.cons_append, List.map_cons, List.map_nil, atG, endH_f, endH_t, endH_nil]
        rintro _ ⟨Bs, cs, rfl, hos⟩
        have a14 := hap.1 ⟨14, some 30, SlIk 1 [keepF x]⟩ (by simp)
        simp only [Nat.zero_add, Nat.reduceAdd] at hos a14
        generalize (γ 14).1 = lo2 at hos a14
        generalize (γ 14).2 = hi2 at hos a14
        have HSS := hide hos
        have h2a := a14.1; have h2b := a14.2.2
        clear hap hos a14
        go_simp
        refine wpList_push_sl (α := Fact) (w2.ext u) rfl (.tmp 16) (.tmp 30) 39 rfl (g + 1) 74 i0 _ 24 Tryz.underlying39 HI0.out HZ.out HZ1.out HZ2.out rfl (by decide) (fun _ => False) (fun b => lo2 ≤ b ∧ b < hi2) (fun b => lo2 ≤ b ∧ b < hi2) (.slice Ao k ca) ((m.saved.take k).map keepF) [keepF x] rfl (HO2.out.ext u) Bs 1 cs rfl HSS.out (fun _ h => h.elim) (fun _ _ h => h) (fun g hg e => by have := (HO2.out.below_ g hg).2; omega) (fun b h => by omega) (by rw [HK.out]; have := HK64.out; omega) (by rw [HK.out]; have := HK64.out; omega) (by rw [size_ext]; omega) ?_
        intro v' w1 hown' hg3 hrow
        have HB3 := hide ((HB2.out.ext (by have := HB2.out.size; omega) u).grown hg3 (by have := HB2.out.size; rw [size_ext]; omega) (fun g e => by have := (HO2.out.below_ g e).1; rw [HZ0.out]; omega))
        rw [← HX.out] at hown'
        obtain ⟨Av, cv, hv⟩ := hown'.form
        subst hv
        have HKL := hide (show ((m.saved.take (k + 1)).map keepF).length = k + 1 by rw [HX.out, List.length_append, HK.out]; rfl)
        rw [HKL.out] at hown' ⊢
        have HOW := hide hown'.facts
        clear hown' hg3 hrow
        go_wp2_with fail
        go_roundw
        case rel => exact ⟨k + 1, cv, Av, rfl, by go_num, by omega, HOW.out, HB3.out⟩
        case measure => simp [intOf]; omega
      · go_wp2_with (go_at_call 15; refine HRW.out.mono ?_; rintro e _ ⟨rfl, ux, rfl⟩)
        go_ret
        obtain rfl : k = n2 := by omega
        have h := HO.out.ext ux
        rw [take_end HL2.out hlt, ← HG.out] at h
        refine RetO.mk_ (h.base' (by rw [HGQ.out]; omega)) (fun _ h => h.elim) ?_
        rw [HGQ.out]
        exact (HB0.out.trans (HBB.out.mono (by rw [HZ0.out]; omega))).ext (by omega) ux
set_option maxRecDepth 100000 in
set_option maxHeartbeats 4000000 in
theorem sameFacts_any (w : World) (S S' : Nat → Prop) (A A' : Option Addr) (n c c' : Nat) (xs : List Fact) (h : Sl w S A n c xs) (h' : Sl w S' A' n c' xs) :
    Calls Tryz.prog 20 #[.slice A n c, .slice A' n c'] w (RetX (.bool true) w) := by
  have hn := h.nle
  have HS := hide h; clear h
  have HS' := hide h'; clear h'
  go_enter Tryz.func20, Tryz.ntmps20
  go_wp2
  go_loopw [5] (fun i wr => ∃ k : Nat, k ≤ n ∧ i = .int .i64 k ∧ ∃ u, wr = w.ext u) (fun i _ => n - (intOf i).toNat)
  case atStart => exact ⟨0, Nat.zero_le _, rfl, ext_refl _⟩
  case round =>
    obtain ⟨k, hk, rfl, u, rfl⟩ := hrel
    by_cases hlt : k < n
    · obtain ⟨b, off, x, rfl, hb, hx, i0, i1, d0, d1, d2⟩ := at_Fact HS.out hlt
      obtain ⟨b', off', x', rfl, hb', hx', _, _, e0, e1, e2⟩ := at_Fact HS'.out hlt
      obtain rfl := some_eq hx hx'
      clear hx hx'
      obtain ⟨xv, xs, xn⟩ := x
      simp only at i0 i1 d0 d1 d2 e0 e1 e2
      have g0 : (xv == xv) = true := by simp
      have g1 : (xs == xs) = true := by simp
      have g2 : (xn == xn) = true := by simp
      go_wp2
      refine wp_region_ext (by kernel_rfl) (by kernel_rfl) ?_
      repeat (any_goals (first | go_big_quiet_step ((fail)) | quiet_step ((fail))))
      refine wpQuiet_nil ?_
      rintro _ ⟨uq, rfl⟩
      go_wp2
      go_roundw
      case rel => exact ⟨k + 1, by omega, by go_num, Below.to_ext (by repeat (first | exact Below.refl _ _ | assumption | refine Below.alloc ?_ (by simp [size_ext]; try omega) _ | refine Below.ext ?_ (by simp [size_ext]; try omega) _ | refine Below.drew ?_ | refine Below.setCell ?_ (by simp [size_ext]; try omega) _))⟩
      case measure => simp [intOf]; omega
    · go_wp2
      go_ret
      exact RetX.b rfl (by repeat (first | exact Below.refl _ _ | assumption | refine Below.alloc ?_ (by simp [size_ext]; try omega) _ | refine Below.ext ?_ (by simp [size_ext]; try omega) _ | refine Below.drew ?_ | refine Below.setCell ?_ (by simp [size_ext]; try omega) _))
end Go.Proofs.YtcfimcghckjmeaaGreatDoor
