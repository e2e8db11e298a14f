/- law24: walks: right parts. -/
import Derived.Test.YtbppamjogdjfkaaIT5
import Derived.Test.YtbppamjogdjfkaaNC
set_option linter.unusedSimpArgs false
set_option linter.unusedVariables false
namespace Go.Proofs.Ytbppamjogdjfkaa
open Go.RowKit Go.Shelf Go.Maps

def restOk (colors regs : Int) : Int → List Int → List Int → List Int → Bool
  | _, [], _, _ => true
  | least, v :: vs, c :: cs, w :: ws => (decide (least ≤ v) && decide (v ≤ 200) && (decide (-1 ≤ c) && decide (c < colors)) && (decide (-1 ≤ w) && decide (w < regs))) && restOk colors regs (v + 1) vs cs ws
  | _, _, _, _ => false
theorem restOk_eq (colors regs : Int) : ∀ (vs cs ws : List Int) (least : Int), cs.length = vs.length → ws.length = vs.length →
    restOk colors regs least vs cs ws = (varsOk24 least vs && (cs.all fun c => decide (-1 ≤ c) && decide (c < colors)) && (ws.all fun r => decide (-1 ≤ r) && decide (r < regs)))
  | [], [], [], _, _, _ => rfl
  | v :: vs, c :: cs, w :: ws, least, h1, h2 => by
    simp only [List.length_cons, Nat.add_right_cancel_iff] at h1 h2
    unfold restOk varsOk24
    rw [restOk_eq colors regs vs cs ws (v + 1) h1 h2, List.all_cons, List.all_cons]
    cases decide (least ≤ v) <;> cases decide (v ≤ 200) <;> cases decide (-1 ≤ c) <;> cases decide (c < colors) <;> cases decide (-1 ≤ w) <;> cases decide (w < regs) <;> simp
  | [], _ :: _, _, _, h, _ => by simp at h
  | [], [], _ :: _, _, _, h => by simp at h
  | _ :: _, [], _, _, h, _ => by simp at h
  | _ :: _, _ :: _, [], _, _, h => by simp at h
theorem partOk_eq24 {p : Part} {n : Nat} {colors regs : Int} (h1 : p.colors.length = p.vars.length) (h2 : p.wish.length = p.vars.length) (h3 : -1 ≤ p.parent) (h4 : p.parent < n) : partOk24 p n colors regs = restOk colors regs 1 p.vars p.colors p.wish := by
  rw [restOk_eq _ _ _ _ _ _ h1 h2]
  unfold partOk24
  simp [h1, h2, h3, h4]
set_option maxRecDepth 100000 in
set_option maxHeartbeats 4000000 in
theorem rightP24_any (w : World) (S : Nat → Prop) (p : Part) (A1 A2 A3 : Option Addr) (n1 c1 n2 c2 n3 c3 : Nat) (h1 : Sl w S A1 n1 c1 p.vars) (h2 : Sl w S A2 n2 c2 p.colors) (h3 : Sl w S A3 n3 c3 p.wish) (at_ : Nat) (colors regs : Int) :
    Calls Try.prog 23 #[.agg #[.int .i64 p.parent, .slice A1 n1 c1, .slice A2 n2 c2, .slice A3 n3 c3], .int .i64 (at_ : Int), .int .i64 colors, .int .i64 regs] w (RetX (.bool (partOk24 p at_ colors regs)) w) := by
  have l1 := h1.len; have l2 := h2.len; have l3 := h3.len
  have hn1 := h1.nle
  have H1 := hide h1; have H2 := hide h2; have H3 := hide h3
  clear h1 h2 h3
  obtain ⟨q, hq⟩ : ∃ q, p.parent = q := ⟨_, rfl⟩
  by_cases hg : (-1 ≤ q ∧ q < at_) ∧ n2 = n1 ∧ n3 = n1
  · obtain ⟨⟨g1, g2⟩, rfl, g4⟩ := hg
    subst g4
    have HP := hide (partOk_eq24 (n := at_) (colors := colors) (regs := regs) (by rw [l2, l1]) (by rw [l3, l1]) (by rw [hq]; exact g1) (by rw [hq]; exact g2))
    rw [HP.out, hq]
    have HL1 := hide l1; have HL2 := hide l2; have HL3 := hide l3
    have hii : (-1 : Int) ≤ q := g1
    have hij : q < (at_ : Int) := g2
    clear HP l1 l2 l3 hq
    go_enter Try.func23, Try.ntmps23
    go_wp2_with fail
    obtain ⟨W0, hW0⟩ : ∃ W0, w.alloc (.cells #[.int .i64 q, .slice A1 n3 c1, .slice A2 n3 c2, .slice A3 n3 c3] 38) = W0 := ⟨_, rfl⟩
    rw [hW0]
    obtain ⟨g, hgg⟩ : ∃ g, w.heap.size = g := ⟨_, rfl⟩
    rw [hgg]
    have hrow : W0.heap[g]? = some (.cells #[.int .i64 q, .slice A1 n3 c1, .slice A2 n3 c2, .slice A3 n3 c3] 38 (0, 0)) := by rw [← hW0, ← hgg]; exact heap_alloc_new w _
    have k1 : W0.cell? ⟨g, 1, none⟩ = some (.slice A1 n3 c1) := cell_of_row W0 g _ _ _ (0, 0) hrow
    have k2 : W0.cell? ⟨g, 2, none⟩ = some (.slice A2 n3 c2) := cell_of_row W0 g _ _ _ (0, 0) hrow
    have k3 : W0.cell? ⟨g, 3, none⟩ = some (.slice A3 n3 c3) := cell_of_row W0 g _ _ _ (0, 0) hrow
    have hgl : g < W0.heap.size := (Array.getElem?_eq_some_iff.1 hrow).1
    have HB := hide (show Below w.heap.size w W0 by rw [← hW0]; exact (Below.refl _ _).alloc (Nat.le_refl _) _)
    have HS1 := hide (show Sl W0 S A1 n3 c1 p.vars by rw [← hW0]; exact H1.out.alloc _)
    have HS2 := hide (show Sl W0 S A2 n3 c2 p.colors by rw [← hW0]; exact H2.out.alloc _)
    have HS3 := hide (show Sl W0 S A3 n3 c3 p.wish by rw [← hW0]; exact H3.out.alloc _)
    have HGG := hide hgg
    clear hW0 hrow hgg H1 H2 H3
    go_loopw [9, 42] (fun l i wr => ∃ (j : Nat) (least : Int), j ≤ n3 ∧ i = .int .i64 j ∧ l = .int .i64 least ∧ (1 ≤ least ∧ least ≤ 201) ∧ restOk colors regs 1 p.vars p.colors p.wish = restOk colors regs least (p.vars.drop j) (p.colors.drop j) (p.wish.drop j) ∧ wr = W0) (fun _ i _ => n3 - (Go.RowKit.intOf i).toNat)
    case atStart => exact ⟨0, 1, Nat.zero_le _, rfl, rfl, by omega, rfl, rfl⟩
    case round =>
      obtain ⟨j, least, hj, rfl, rfl, ⟨hle1, hle2⟩, hr, rfl⟩ := hrel
      have HR := hide hr
      clear hr
      by_cases hlt : j < n3
      · obtain ⟨b1, o1, v, rfl, hb1, hv, hvi, d1⟩ := at_int HS1.out hlt
        obtain ⟨b2, o2, c, rfl, hb2, hc, hci, d2⟩ := at_int HS2.out hlt
        obtain ⟨b3, o3, u, rfl, hb3, hu, hui, d3⟩ := at_int HS3.out hlt
        have HX := hide (show restOk colors regs 1 p.vars p.colors p.wish = ((decide (least ≤ v) && decide (v ≤ 200) && (decide (-1 ≤ c) && decide (c < colors)) && (decide (-1 ≤ u) && decide (u < regs))) && restOk colors regs (v + 1) (p.vars.drop (j + 1)) (p.colors.drop (j + 1)) (p.wish.drop (j + 1))) by rw [HR.out, drop_at hv, drop_at hc, drop_at hu]; rfl)
        clear hv hc hu hvi hci hui HR
        by_cases hok : (least ≤ v ∧ v ≤ 200) ∧ (-1 ≤ c ∧ c < colors) ∧ (-1 ≤ u ∧ u < regs)
        · obtain ⟨⟨o1', o2'⟩, ⟨o3', o4'⟩, o5', o6'⟩ := hok
          have hwv : IntKind.i64.wrap (v + 1) = v + 1 := IntWalk.i64_in _ (by omega)
          go_wp2_with fail
          go_roundw
          case rel => exact ⟨j + 1, v + 1, by omega, by go_num, rfl, ⟨by omega, by omega⟩, by rw [HX.out]; simp [o1', o2', o3', o4', o5', o6'], trivial⟩
          case measure => simp [Go.RowKit.intOf]; omega
        · have HF := hide (show restOk colors regs 1 p.vars p.colors p.wish = false by
            rw [HX.out, Bool.and_eq_false_iff]
            left
            refine Bool.eq_false_iff.2 fun h => hok ?_
            simpa [and_assoc] using h)
          have hok1 : v < least ∨ 200 < v ∨ c < -1 ∨ colors ≤ c ∨ u < -1 ∨ regs ≤ u := by omega
          clear hok HX
          by_cases a0 : v < least
          · clear hok1
            go_wp2_with fail
            go_ret
            exact RetX.b HF.out.symm HB.out
          by_cases a1 : 200 < v
          · clear hok1
            go_wp2_with fail
            go_ret
            exact RetX.b HF.out.symm HB.out
          by_cases a2 : c < -1
          · clear hok1
            go_wp2_with fail
            go_ret
            exact RetX.b HF.out.symm HB.out
          by_cases a3 : colors ≤ c
          · clear hok1
            go_wp2_with fail
            go_ret
            exact RetX.b HF.out.symm HB.out
          by_cases a4 : u < -1
          · clear hok1
            go_wp2_with fail
            go_ret
            exact RetX.b HF.out.symm HB.out
          have a5 : regs ≤ u := by omega
          clear hok1
          go_wp2_with fail
          go_ret
          exact RetX.b HF.out.symm HB.out
      · obtain rfl : j = n3 := by omega
        go_wp2_with fail
        go_ret
        exact RetX.b (by rw [HR.out, drop_end HL1.out hlt]; unfold restOk; rfl) HB.out
  · have HF := hide (show partOk24 p at_ colors regs = false by
      refine Bool.eq_false_iff.2 fun h => hg ?_
      unfold partOk24 at h
      simp only [Bool.and_eq_true, decide_eq_true_eq] at h
      obtain ⟨⟨⟨⟨⟨a1, a2⟩, a3, a4⟩, a5⟩, a6⟩, a7⟩ := h
      rw [← hq]
      exact ⟨⟨a1, a2⟩, by omega, by omega⟩)
    rw [HF.out, hq]
    clear HF
    have hg1 : q < -1 ∨ (at_ : Int) ≤ q ∨ n2 ≠ n1 ∨ n3 ≠ n1 := by omega
    clear hg
    by_cases a0 : q < -1
    · clear hg1
      go_enter Try.func23, Try.ntmps23
      go_wp2_with fail
      go_ret
      exact RetX.b rfl (by repeat (first | exact Below.refl _ _ | assumption | refine Below.alloc ?_ (by simp [size_ext]; try omega) _ | refine Below.ext ?_ (by simp [size_ext]; try omega) _ | refine Below.drew ?_ | refine Below.setCell ?_ (by simp [size_ext]; try omega) _))
    by_cases a1 : (at_ : Int) ≤ q
    · clear hg1
      go_enter Try.func23, Try.ntmps23
      go_wp2_with fail
      go_ret
      exact RetX.b rfl (by repeat (first | exact Below.refl _ _ | assumption | refine Below.alloc ?_ (by simp [size_ext]; try omega) _ | refine Below.ext ?_ (by simp [size_ext]; try omega) _ | refine Below.drew ?_ | refine Below.setCell ?_ (by simp [size_ext]; try omega) _))
    by_cases a2 : (n2 : Int) ≠ n1
    · clear hg1
      go_enter Try.func23, Try.ntmps23
      go_wp2_with fail
      go_ret
      exact RetX.b rfl (by repeat (first | exact Below.refl _ _ | assumption | refine Below.alloc ?_ (by simp [size_ext]; try omega) _ | refine Below.ext ?_ (by simp [size_ext]; try omega) _ | refine Below.drew ?_ | refine Below.setCell ?_ (by simp [size_ext]; try omega) _))
    have a3 : (n3 : Int) ≠ n1 := by omega
    clear hg1
    go_enter Try.func23, Try.ntmps23
    go_wp2_with fail
    go_ret
    exact RetX.b rfl (by repeat (first | exact Below.refl _ _ | assumption | refine Below.alloc ?_ (by simp [size_ext]; try omega) _ | refine Below.ext ?_ (by simp [size_ext]; try omega) _ | refine Below.drew ?_ | refine Below.setCell ?_ (by simp [size_ext]; try omega) _))
set_option maxRecDepth 100000 in
set_option maxHeartbeats 2000000 in
theorem rightL24_any (w : World) (S1 S2 S : Nat → Prop) (m : Machine) (A1 A2 : Option Addr) (n1 c1 n2 c2 : Nat) (h1 : Sl w S1 A1 n1 c1 m.args) (h2 : Sl w S2 A2 n2 c2 m.saved) (hi : InI m.ret) (many : Int) (A : Option Addr) (n c : Nat) (l : List Part) (h : Sl w S A n c l) :
    Calls Try.prog 9 #[.agg #[.int .i64 m.regs, .slice A1 n1 c1, .int .i64 m.ret, .slice A2 n2 c2], .int .i64 many, .slice A n c] w (RetX (.bool (rightP24 m many l)) w) := by
  obtain ⟨W0, hW0⟩ : ∃ W0, w.alloc (.cells #[.int .i64 m.regs, .slice A1 n1 c1, .int .i64 m.ret, .slice A2 n2 c2] 24) = W0 := ⟨_, rfl⟩
  obtain ⟨g, hg⟩ : ∃ g, w.heap.size = g := ⟨_, rfl⟩
  have HROW := hide (show MRow W0 g m A1 n1 c1 A2 n2 c2 by rw [← hW0, ← hg]; exact heap_alloc_new w _)
  have hz0 : W0.heap.size = g + 1 := by rw [← hW0, ← hg]; simp
  have hb0 : Below g w W0 := by rw [← hW0, ← hg]; exact (Below.refl _ _).alloc (Nat.le_refl _) _
  have HM := hide (fun (W : World) (hb : Below W0.heap.size W0 W) => (show MRow W g m A1 n1 c1 A2 n2 c2 from (hb.block g (by omega)).trans HROW.out).cells)
  have HF := hide (fits24_any W0 S1 S2 m A1 A2 n1 c1 n2 c2 (by rw [← hW0]; exact h1.alloc _) (by rw [← hW0]; exact h2.alloc _) hi many)
  have HB0 := hide hb0
  have HS := hide (show Sl W0 (fun b => b < W0.heap.size) A n c l by rw [← hW0]; exact (h.alloc _).more fun b hb _ => hb)
  have hn := h.nle
  have HLN := hide h.len
  obtain ⟨m0, m1, m2, m3, hgl⟩ := HM.out W0 (Below.refl _ _)
  clear h1 h2 h hb0
  cases hf : fits24 m many with
  | false =>
    rw [hf] at HF
    rw [show rightP24 m many l = false by unfold rightP24; rw [hf]; rfl]
    clear hf
    go_enter Try.func9, Try.ntmps9
    go_wp2_with (go_at_call 22; (with_reducible refine HF.out.mono ?_); rintro e _ ⟨rfl, u1, rfl⟩)
    go_ret
    exact RetX.b rfl (by rw [hg]; exact HB0.out.ext (by omega) _)
  | true =>
    rw [hf] at HF
    obtain ⟨hr, k0, k1⟩ := fits24_of hf
    have hr64 := (right24 hr).r64
    have HPE := hide (show rightP24 m many l = partsOk24 (m.regs - many) m.regs 0 l by unfold rightP24; rw [hf]; rfl)
    rw [HPE.out]
    have hwm : IntKind.i64.wrap (m.regs - many) = m.regs - many := IntWalk.i64_in _ (by omega)
    clear hf hr HPE
    go_enter Try.func9, Try.ntmps9
    go_wp2_with (go_at_call 22; (with_reducible refine HF.out.mono ?_); rintro e _ ⟨rfl, u1, rfl⟩)
    go_loopw [15] (fun i wr => ∃ j : Nat, j ≤ n ∧ i = .int .i64 j ∧ partsOk24 (m.regs - many) m.regs 0 l = partsOk24 (m.regs - many) m.regs j (l.drop j) ∧ Below W0.heap.size W0 wr) (fun i _ => n - (Go.RowKit.intOf i).toNat)
    case atStart => exact ⟨0, Nat.zero_le _, rfl, rfl, (Below.refl _ _).ext (Nat.le_refl _) _⟩
    case round =>
      obtain ⟨j, hj, rfl, hr, hbw⟩ := hrel
      have HRR := hide hr; have HBW := hide hbw
      have hzw := hbw.size
      obtain ⟨m0, m1, m2, m3, hgl⟩ := HM.out wr hbw
      have hs := HS.out.below hbw (fun b hb => hb)
      clear hr hbw
      by_cases hlt : j < n
      · obtain ⟨b, off, x, B1, k1', q1, B2, k2', q2, B3, k3', q3, rfl, hb, hx, hxi, s1, s2, s3, e0, e1, e2, e3⟩ := at_Part hs hlt
        have HX := hide (show partsOk24 (m.regs - many) m.regs 0 l = (partOk24 x j (m.regs - many) m.regs && partsOk24 (m.regs - many) m.regs (j + 1) (l.drop (j + 1))) by rw [HRR.out, drop_at hx]; rfl)
        have HRP := hide (fun (W : World) (hbW : Below wr.heap.size wr W) => rightP24_any W _ x B1 B2 B3 k1' q1 k2' q2 k3' q3 (s1.belowAll hbW) (s2.belowAll hbW) (s3.belowAll hbW) j (m.regs - many) m.regs)
        clear hx s1 s2 s3 hs HRR
        cases hok : partOk24 x j (m.regs - many) m.regs with
        | true =>
          have HX := hide (show partsOk24 (m.regs - many) m.regs 0 l = partsOk24 (m.regs - many) m.regs (j + 1) (l.drop (j + 1)) by rw [HX.out, hok]; rfl)
          rw [hok] at HRP
          clear hok
          go_wp2_with (go_at_call 23; refine (HRP.out _ ((Below.refl _ _).alloc (Nat.le_refl _) _)).mono ?_; rintro e _ ⟨rfl, u4, rfl⟩)
          go_roundw
          case rel => exact ⟨j + 1, by omega, by go_num, HX.out, (HBW.out.alloc (by omega) _).ext (by simp; omega) _⟩
          case measure => simp [Go.RowKit.intOf]; omega
        | false =>
          have HX := hide (show partsOk24 (m.regs - many) m.regs 0 l = false by rw [HX.out, hok]; rfl)
          rw [hok] at HRP
          clear hok
          go_wp2_with (go_at_call 23; refine (HRP.out _ ((Below.refl _ _).alloc (Nat.le_refl _) _)).mono ?_; rintro e _ ⟨rfl, u4, rfl⟩)
          go_ret
          exact RetX.b HX.out.symm (by rw [hg]; exact (HB0.out.trans (HBW.out.mono (by omega))).trans (((Below.refl _ wr).alloc (Nat.le_refl _) _).ext (by simp) _ |>.mono (by omega)))
      · obtain rfl : j = n := by omega
        go_wp2_with fail
        go_ret
        exact RetX.b (by rw [HRR.out, drop_end HLN.out hlt]; rfl) (by rw [hg]; exact HB0.out.trans (HBW.out.mono (by omega)))
end Go.Proofs.Ytbppamjogdjfkaa
