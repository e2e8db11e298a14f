/- law24: walk: the pools. -/
import Derived.Test.YtbppamjogdjfkaaIT4
set_option linter.unusedSimpArgs false
set_option linter.unusedVariables false
namespace Go.Proofs.Ytbppamjogdjfkaa
open Go.RowKit Go.Shelf Go.Maps

def RetPools (s p : List Int) (w : World) (e : Ending) (w' : World) : Prop :=
  ∃ v1 v2, e = .returned (.tuple #[v1, v2]) ∧ OwnL w' w.heap.size 3 (fun _ => False) v1 s ∧ OwnL w' w.heap.size 3 (fun _ => False) v2 p ∧ (∀ g, v1.ownBlock = some g → v2.ownBlock ≠ some g) ∧ Below w.heap.size w w'
/-- Three lists of the call's own, apart. -/
structure T3 (B : Nat) (va vb vc : Value) (xa xb xc : List Int) (W : World) : Prop where
  a : OwnL W B 3 (fun _ => False) va xa
  b : OwnL W B 3 (fun _ => False) vb xb
  c : OwnL W B 3 (fun _ => False) vc xc
  ab : ∀ g, va.ownBlock = some g → vb.ownBlock ≠ some g
  bc : ∀ g, vb.ownBlock = some g → vc.ownBlock ≠ some g
  ca : ∀ g, vc.ownBlock = some g → va.ownBlock ≠ some g
section
variable {B : Nat} {va vb vc v' : Value} {xa xb xc : List Int} {W W2 : World}
theorem T3.rot (h : T3 B va vb vc xa xb xc W) : T3 B vb vc va xb xc xa W := ⟨h.b, h.c, h.a, h.bc, h.ca, h.ab⟩
theorem T3.ext (h : T3 B va vb vc xa xb xc W) (u : Ext) : T3 B va vb vc xa xb xc (W.ext u) := ⟨h.a.ext u, h.b.ext u, h.c.ext u, h.ab, h.bc, h.ca⟩
theorem T3.push {y : Int} {o : Obj} (h : T3 B va vb vc xa xb xc W) (ho : OwnL W2 B 3 (fun _ => False) v' (xa ++ [y])) (hg : (W.alloc o).grownBy W2 va.ownBlock) (h6 : v'.ownBlock = va.ownBlock ∨ v'.ownBlock = some (W.heap.size + 1)) : T3 B v' vb vc (xa ++ [y]) xb xc W2 := by
  have hs := hg.size
  simp only [World.size_alloc] at hs
  have lb := h.b.below_; have lc := h.c.below_
  have kp : ∀ g, g < W.heap.size → va.ownBlock ≠ some g → W2.heap[g]? = W.heap[g]? := fun g hl hne => (hg.block g (by simp; omega) fun e => hne e.symm).trans (Below.heap_alloc W o g hl)
  refine ⟨ho, h.b.keep (by omega) (fun _ f => f.elim) fun g e => kp g (lb g e).2 fun e2 => h.ab g e2 e, h.c.keep (by omega) (fun _ f => f.elim) fun g e => kp g (lc g e).2 (h.ca g e), fun g e => ?_, h.bc, fun g e e2 => ?_⟩
  · rcases h6 with h6 | h6
    · exact h.ab g (h6 ▸ e)
    · intro e2; rw [h6] at e; injection e with e; have := (lb g e2).2; omega
  · rcases h6 with h6 | h6
    · exact h.ca g e (h6 ▸ e2)
    · rw [h6] at e2; injection e2 with e2; have := (lc g e).2; omega
end
theorem Sl.zero_ {α : Type} [Rep α] {w : World} {S : Nat → Prop} {A : Option Addr} : Sl w S A 0 0 ([] : List α) := ⟨rfl, Nat.le_refl _, by simp [maxLen], fun _ => rfl, fun h => absurd h (by omega)⟩
theorem Sl.dropA_ {w : World} {S : Nat → Prop} {A : Option Addr} {n c k : Nat} {xs : List Int} (h : Sl w S A n c xs) (hk : k ≤ n) (hne : c ≠ k) : Sl w S (Option.map (fun x : Addr => x.add k) A) (n - k) (c - k) (xs.drop k) := by
  obtain ⟨h1, h2, h3, h4, h5⟩ := h
  refine ⟨by rw [List.length_drop, h1], by omega, by omega, fun e => ?_, fun hn => ?_⟩
  · cases A with
    | none => have := h4 rfl; omega
    | some a => cases e
  · obtain ⟨b, off, e, hb, hS, hx⟩ := h5 (by omega)
    subst e
    refine ⟨b, off + k, by simp [Addr.add], hb, hS, fun i x hi => ?_⟩
    rw [List.getElem?_drop] at hi
    obtain ⟨us, hus, hc⟩ := hx (k + i) x hi
    refine ⟨us, hus, fun j u hj => ?_⟩
    have := hc j u hj
    rw [show off + k + (i * Rep.size Int + j) = off + ((k + i) * Rep.size Int + j) by simp [Rep.size]; omega]
    exact this
def sfF (m : Machine) (l : List Int) : List Int := l.filter fun r => hasI r m.saved && !hasI r m.args
def plF (m : Machine) (l : List Int) : List Int := l.filter fun r => !hasI r m.saved
def nmF (m : Machine) (l : List Int) : List Int := l.filter fun r => hasI r m.saved && hasI r m.args
theorem sfF_snoc (m : Machine) (l : List Int) (r : Int) : sfF m (l ++ [r]) = sfF m l ++ (if (hasI r m.saved && !hasI r m.args) = true then [r] else []) := by
  unfold sfF; rw [List.filter_append]; congr 1; simp only [List.filter_cons, List.filter_nil]
theorem plF_snoc (m : Machine) (l : List Int) (r : Int) : plF m (l ++ [r]) = plF m l ++ (if (!hasI r m.saved) = true then [r] else []) := by
  unfold plF; rw [List.filter_append]; congr 1; simp only [List.filter_cons, List.filter_nil]
theorem nmF_snoc (m : Machine) (l : List Int) (r : Int) : nmF m (l ++ [r]) = nmF m l ++ (if (hasI r m.saved && hasI r m.args) = true then [r] else []) := by
  unfold nmF; rw [List.filter_append]; congr 1; simp only [List.filter_cons, List.filter_nil]
theorem pools24_eq {m : Machine} {many : Int} (hf : fits24 m many = true) : safe24 m many = sfF m (left24 m many) ∧ plain24 m many = plF m (left24 m many) ++ nmF m (left24 m many) := by
  unfold safe24 plain24; rw [if_pos hf, if_pos hf]; exact ⟨rfl, rfl⟩
theorem sorted_left24 {m : Machine} {many : Int} (h : fits24 m many = true) : sortI ((row24 m).drop many.toNat) = left24 m many := by
  have hr := (fits24_of h).1
  refine left_eq24 hr many ?_ fun x => mem_sortI
  have hn : (sortI ((row24 m).drop many.toNat)).Nodup := by
    unfold sortI
    rw [List.Perm.nodup_iff (List.mergeSort_perm _ _), row_eq24 hr]
    exact (drow_nodup24 m).sublist (List.drop_sublist _ _)
  exact (List.pairwise_and_iff.2 ⟨sortI_le _, hn⟩).imp fun h => by omega
set_option maxRecDepth 100000 in
set_option maxHeartbeats 1000000 in
theorem pools24_any (w : World) (S1 S2 : Nat → Prop) (m : Machine) (A1 A2 : Option Addr) (n1 c1 n2 c2 : Nat) (h1 : Sl w S1 A1 n1 c1 m.args) (h2 : Sl w S2 A2 n2 c2 m.saved) (hi : InI m.ret) (many : Int) :
    Calls Try.prog 10 #[.agg #[.int .i64 m.regs, .slice A1 n1 c1, .int .i64 m.ret, .slice A2 n2 c2], .int .i64 many] w (RetPools (safe24 m many) (plain24 m many) w) := by
  obtain ⟨W0, hW0⟩ : ∃ W0, w.alloc (.cells #[.int .i64 m.regs, .slice A1 n1 c1, .int .i64 m.ret, .slice A2 n2 c2] 24) = W0 := ⟨_, rfl⟩
  obtain ⟨g, hg⟩ : ∃ g, w.heap.size = g := ⟨_, rfl⟩
  have HROW := hide (show MRow W0 g m A1 n1 c1 A2 n2 c2 by rw [← hW0, ← hg]; exact heap_alloc_new w _)
  have hz0 : W0.heap.size = g + 1 := by rw [← hW0, ← hg]; simp
  have hb0 : Below g w W0 := by rw [← hW0, ← hg]; exact (Below.refl _ _).alloc (Nat.le_refl _) _
  have HM := hide (fun (W : World) (hb : Below W0.heap.size W0 W) => (show MRow W g m A1 n1 c1 A2 n2 c2 from (hb.block g (by omega)).trans HROW.out).cells)
  have HF := hide (fits24_any W0 S1 S2 m A1 A2 n1 c1 n2 c2 (by rw [← hW0]; exact h1.alloc _) (by rw [← hW0]; exact h2.alloc _) hi many)
  have HB0 := hide hb0
  have H1 := hide (show Sl W0 S1 A1 n1 c1 m.args by rw [← hW0]; exact h1.alloc _)
  have H2 := hide (show Sl W0 S2 A2 n2 c2 m.saved by rw [← hW0]; exact h2.alloc _)
  have HR := hide (fun (W : World) (hb : Below W0.heap.size W0 W) (hr : rightM m = true) => row24_any W S1 S2 m A1 A2 n1 c1 n2 c2 (H1.out.belowAll hb) (H2.out.belowAll hb) hi hr)
  obtain ⟨m0, m1, m2, m3, hgl⟩ := HM.out W0 (Below.refl _ _)
  clear h1 h2 hb0
  cases hf : fits24 m many with
  | false =>
    rw [hf] at HF
    rw [show safe24 m many = [] by unfold safe24; rw [if_neg (by rw [hf]; decide)], show plain24 m many = [] by unfold plain24; rw [if_neg (by rw [hf]; decide)]]
    clear hf
    go_enter Try.func10, Try.ntmps10
    go_wp2_with (go_at_call 22; (with_reducible refine HF.out.mono ?_); rintro e _ ⟨rfl, u1, rfl⟩)
    go_ret2
    exact ⟨_, _, rfl, OwnL.nil_ _ _ _ _, OwnL.nil_ _ _ _ _, fun _ e => (by cases e), by rw [hg]; exact HB0.out.ext (by omega) _⟩
  | true =>
    rw [hf] at HF
    obtain ⟨hr, k0, k1⟩ := fits24_of hf
    have HFT := hide hf; have HRT := hide hr
    obtain ⟨q1, q2⟩ := pools24_eq hf
    rw [q1, q2]
    have HLE := hide (sorted_left24 hf)
    obtain ⟨k, rfl⟩ : ∃ k : Nat, many = (k : Int) := Int.eq_ofNat_of_zero_le k0
    have hr64 := (right24 hr).r64
    have hlen := row_len24 hr
    have hll : ((left24 m (k : Int)).length : Int) ≤ 64 := by
      rw [← HLE.out, sortI_len, List.length_drop, hlen]; omega
    obtain ⟨L, hL⟩ : ∃ L, left24 m (k : Int) = L := ⟨_, rfl⟩
    rw [hL] at HLE hll ⊢
    have HLE := hide (show sortI ((row24 m).drop k) = L by have := HLE.out; rwa [Int.toNat_natCast] at this)
    clear hf hr q1 q2 hL
    go_enter Try.func10, Try.ntmps10
    go_wp2_with (go_at_call 22; (with_reducible refine HF.out.mono ?_); rintro e _ ⟨rfl, u1, rfl⟩; refine Hd.out ?_)
    obtain ⟨W1, hW1⟩ : ∃ W1, W0.ext u1 = W1 := ⟨_, rfl⟩
    have hb1 : Below W0.heap.size W0 W1 := by rw [← hW1]; exact (Below.refl _ _).ext (Nat.le_refl _) _
    rw [hW1]
    obtain ⟨m0, m1, m2, m3, hgl⟩ := HM.out W1 hb1
    have HB1 := hide hb1
    have hs1 := hb1.size
    have HRW := hide (HR.out W1 hb1 HRT.out)
    clear hW1 hW0 hb1
    have HLN := hide hlen
    clear hlen
    refine hide ?_
    go_wp2_with (go_at_call 24; (with_reducible refine HRW.out.mono ?_); rintro e W2 ⟨v, rfl, ho, hb⟩; obtain ⟨A, c, rfl⟩ := ho.form; refine Hd.out ?_)
    obtain ⟨N, hN⟩ : ∃ N, (row24 m).length = N := ⟨_, rfl⟩
    rw [hN] at ho ⊢
    have hNk : k ≤ N := by rw [← hN, HLN.out]; omega
    have hN64 : N ≤ 64 := by rw [← hN, HLN.out]; omega
    have hsl := ho.slo (S' := fun _ => True) (fun _ _ _ => trivial)
    have HSL := hide hsl
    have HB2 := hide hb
    have HNN := hide hN
    have hkN : (k : Int) ≤ (N : Int) := by omega
    have hk0 : (0 : Int) ≤ (k : Int) := by omega
    have hNc : N ≤ c := hsl.2.1
    clear ho hsl hb hN m0 m1 m2 m3 hgl
    by_cases hck : c = k
    · subst hck
      obtain rfl : N = c := by omega
      have hsd : Sl W2 (fun _ => True) A 0 0 ((row24 m).drop N) := by
        rw [List.drop_of_length_le (by rw [HNN.out]; omega)]
        exact Sl.zero_
      have hN64' : 0 ≤ 64 := by omega
      refine hide ?_
      go_wp2_with (go_at_call 19; refine Hd.out ?_)
      have HSD := hide hsd
      have HV := hide ((callsIn_wide (n := 1)).1 (values_in Fence.wide 1 trivial rfl A 0 0 W2))
      have HSO := hide ((callsIn_wide (n := 8)).1 (sortedVals_in 8 (by omega) _ A 0 0 _ W2 hsd (by omega)))
      clear hsd
      refine hide ?_
      go_wp2_with (first
        | (go_at_call 19; (with_reducible refine HV.out.mono ?_); rintro e _ ⟨rfl, rfl⟩)
        | (go_at_call 18; (with_reducible refine HSO.out.mono ?_); rintro e W3 ⟨v3, rfl, ho3, hb3⟩; obtain ⟨A3, c3, rfl⟩ := ho3.form; refine Hd.out ?_))
      rw [HLE.out] at ho3 ⊢
      obtain ⟨M, hM⟩ : ∃ M, L.length = M := ⟨_, rfl⟩
      rw [hM] at ho3 hll ⊢
      have hBW3 : Below W0.heap.size W0 W3 := HB1.out.trans ((HB2.out.mono (by omega)).trans (((Below.refl _ W2).alloc (Nat.le_refl _) _).mono (by have := HB2.out.size; omega) |>.trans (hb3.mono (by simp; have := HB2.out.size; omega))))
      have hs3 := hBW3.size
      have HB3 := hide hBW3
      have HSL3 := hide (ho3.slo (S' := fun b => b < W3.heap.size) (fun b hb _ => hb))
      clear ho3 hb3 hBW3
      obtain ⟨i0, hi0, hz, hz1, hz2⟩ := info_parts info_int2
      have HI0 := hide hi0; have HZ := hide hz; have HZ1 := hide hz1; have HZ2 := hide hz2
      clear hi0 hz hz1 hz2
      have hMl := hM
      have HML := hide hM
      clear hM hMl HV HSO HSD HSL
      refine hide ?_
      go_wp2_with fail
      go_loopw [4, 5, 7, 22] (fun a b c i wr => ∃ (j N4 N5 N7 c4 c5 c7 : Nat) (A4 A5 A7 : Option Addr), j ≤ M ∧ i = .int .i64 j ∧ a = .slice A4 N4 c4 ∧ b = .slice A5 N5 c5 ∧ c = .slice A7 N7 c7 ∧ T3 W3.heap.size (.slice A4 N4 c4) (.slice A5 N5 c5) (.slice A7 N7 c7) (sfF m (L.take j)) (plF m (L.take j)) (nmF m (L.take j)) wr ∧ Below W3.heap.size W3 wr) (fun _ _ _ i _ => M - (Go.RowKit.intOf i).toNat)
      case atStart => exact ⟨0, 0, 0, 0, 0, 0, 0, none, none, none, Nat.zero_le _, rfl, rfl, rfl, rfl, ⟨OwnL.nil_ _ _ _ _, OwnL.nil_ _ _ _ _, OwnL.nil_ _ _ _ _, fun _ e => (by cases e), fun _ e => (by cases e), fun _ e => (by cases e)⟩, Below.refl _ _⟩
      case round =>
        obtain ⟨j, N4, N5, N7, c4, c5, c7, A4, A5, A7, hj, rfl, rfl, rfl, rfl, hT, hbw⟩ := hrel
        have HT := hide hT; have HBW := hide hbw
        have hzw := hbw.size
        have hb0w : Below W0.heap.size W0 wr := HB3.out.trans (hbw.mono (by omega))
        obtain ⟨m0, m1, m2, m3, hgl⟩ := HM.out wr hb0w
        have HS1 := hide (H1.out.belowAll hb0w); have HS2 := hide (H2.out.belowAll hb0w)
        have hs := HSL3.out.below hbw (fun b hb => hb)
        have l4 : N4 ≤ 64 := by
          have := hT.a.sl (S' := fun _ => True) (fun _ _ _ => trivial) |>.len
          rw [← this]; exact Nat.le_trans (List.length_filter_le _ _) (by rw [List.length_take]; omega)
        have l5 : N5 ≤ 64 := by
          have := hT.b.sl (S' := fun _ => True) (fun _ _ _ => trivial) |>.len
          rw [← this]; exact Nat.le_trans (List.length_filter_le _ _) (by rw [List.length_take]; omega)
        have l7 : N7 ≤ 64 := by
          have := hT.c.sl (S' := fun _ => True) (fun _ _ _ => trivial) |>.len
          rw [← this]; exact Nat.le_trans (List.length_filter_le _ _) (by rw [List.length_take]; omega)
        clear hT hbw hb0w
        by_cases hlt : j < M
        · obtain ⟨b1, o1, r, rfl, hb1, hr, hri, d1⟩ := at_int hs hlt
          have HTK := hide (take_at hr); have HRI := hide hri
          clear hr hri hs
          have HIS := hide (isSaved5_any wr _ m (.slice A1 n1 c1) A2 n2 c2 HS2.out r)
          go_wp2_with (go_at_call 13; (with_reducible refine HIS.out.mono ?_); rintro e _ ⟨rfl, u4, rfl⟩; refine Hd.out ?_)
          obtain ⟨Wq, hWq⟩ : ∃ Wq, wr.ext u4 = Wq := ⟨_, rfl⟩
          rw [hWq]
          have HTQ := hide (show T3 W3.heap.size (.slice A4 N4 c4) (.slice A5 N5 c5) (.slice A7 N7 c7) (sfF m (L.take j)) (plF m (L.take j)) (nmF m (L.take j)) Wq by rw [← hWq]; exact HT.out.ext u4)
          have hbq : Below W3.heap.size W3 Wq := by rw [← hWq]; exact HBW.out.ext hzw u4
          have hzq := hbq.size
          have hb0q : Below W0.heap.size W0 Wq := HB3.out.trans (hbq.mono (by omega))
          have HBQ := hide hbq
          obtain ⟨m0, m1, m2, m3, hgl⟩ := HM.out Wq hb0q
          have HCN := hide (contains5_any Wq _ A1 n1 c1 m.args r (H1.out.belowAll hb0q))
          clear hWq hbq hb0q HT HBW HIS HS1 HS2
          cases hsv : hasI r m.saved with
          | false =>
            have HSV := hide hsv
            clear hsv
            refine hide ?_
            go_wp2_with (first
              | (go_at_call 25; (with_reducible refine HCN.out.mono ?_); rintro e _ ⟨rfl, rfl⟩)
              | (at_builtin; refine wpList_push (α := Int) Wq [.int .i64 r] 3 rfl (.tmp 35) (.tmp 37) 22 rfl W3.heap.size 3 i0 _ 8 Try.underlying22 HI0.out HZ.out HZ1.out HZ2.out rfl (by decide) (fun _ => False) (fun _ => False) (.slice A5 N5 c5) _ r rfl HTQ.out.b Wq.heap.size rfl rfl ⟨rfl, HRI.out⟩ (fun _ h => h) (fun _ _ h => h) (fun _ h => h.elim) (by rw [HTQ.out.b.sl (fun _ _ _ => trivial) (S' := fun _ => True) |>.len]; omega) (by rw [HTQ.out.b.sl (fun _ _ _ => trivial) (S' := fun _ => True) |>.len]; omega) (by omega) ?_; intro v' w' ho1 hgr h6; obtain ⟨A9, c9, rfl⟩ := ho1.form; obtain ⟨N1, hN1⟩ : ∃ N1, (plF m (L.take j) ++ [r]).length = N1 := ⟨_, rfl⟩; rw [hN1] at ho1 h6 ⊢; clear hN1; have HTP := hide ((HTQ.out.rot.push ho1 hgr h6).rot.rot); have HBP := hide (below_push HBQ.out HTQ.out.b (by omega) hgr); clear ho1 hgr h6))
            go_roundw
            case rel => exact ⟨j + 1, N4, N1, N7, c4, c9, c7, A4, A9, A7, by omega, by go_num, rfl, rfl, rfl, by rw [HTK.out, sfF_snoc, plF_snoc, nmF_snoc, HSV.out]; simpa using HTP.out, HBP.out⟩
            case measure => simp [Go.RowKit.intOf]; omega
          | true =>
            have HSV := hide hsv
            clear hsv
            cases har : hasI r m.args with
            | true =>
              rw [har] at HCN
              have HAR := hide har
              clear har
              refine hide ?_
              go_wp2_with (first
              | (go_at_call 25; (with_reducible refine HCN.out.mono ?_); rintro e _ ⟨rfl, rfl⟩)
              | (at_builtin; refine wpList_push (α := Int) Wq [.int .i64 r] 3 rfl (.tmp 44) (.tmp 46) 22 rfl W3.heap.size 3 i0 _ 8 Try.underlying22 HI0.out HZ.out HZ1.out HZ2.out rfl (by decide) (fun _ => False) (fun _ => False) (.slice A7 N7 c7) _ r rfl HTQ.out.c Wq.heap.size rfl rfl ⟨rfl, HRI.out⟩ (fun _ h => h) (fun _ _ h => h) (fun _ h => h.elim) (by rw [HTQ.out.c.sl (fun _ _ _ => trivial) (S' := fun _ => True) |>.len]; omega) (by rw [HTQ.out.c.sl (fun _ _ _ => trivial) (S' := fun _ => True) |>.len]; omega) (by omega) ?_; intro v' w' ho1 hgr h6; obtain ⟨A9, c9, rfl⟩ := ho1.form; obtain ⟨N1, hN1⟩ : ∃ N1, (nmF m (L.take j) ++ [r]).length = N1 := ⟨_, rfl⟩; rw [hN1] at ho1 h6 ⊢; clear hN1; have HTP := hide ((HTQ.out.rot.rot.push ho1 hgr h6).rot); have HBP := hide (below_push HBQ.out HTQ.out.c (by omega) hgr); clear ho1 hgr h6))
              go_roundw
              case rel => exact ⟨j + 1, N4, N5, N1, c4, c5, c9, A4, A5, A9, by omega, by go_num, rfl, rfl, rfl, by rw [HTK.out, sfF_snoc, plF_snoc, nmF_snoc, HSV.out, HAR.out]; simpa using HTP.out, HBP.out⟩
              case measure => simp [Go.RowKit.intOf]; omega
            | false =>
              rw [har] at HCN
              have HAR := hide har
              clear har
              refine hide ?_
              go_wp2_with (first
              | (go_at_call 25; (with_reducible refine HCN.out.mono ?_); rintro e _ ⟨rfl, rfl⟩)
              | (at_builtin; refine wpList_push (α := Int) Wq [.int .i64 r] 3 rfl (.tmp 26) (.tmp 28) 22 rfl W3.heap.size 3 i0 _ 8 Try.underlying22 HI0.out HZ.out HZ1.out HZ2.out rfl (by decide) (fun _ => False) (fun _ => False) (.slice A4 N4 c4) _ r rfl HTQ.out.a Wq.heap.size rfl rfl ⟨rfl, HRI.out⟩ (fun _ h => h) (fun _ _ h => h) (fun _ h => h.elim) (by rw [HTQ.out.a.sl (fun _ _ _ => trivial) (S' := fun _ => True) |>.len]; omega) (by rw [HTQ.out.a.sl (fun _ _ _ => trivial) (S' := fun _ => True) |>.len]; omega) (by omega) ?_; intro v' w' ho1 hgr h6; obtain ⟨A9, c9, rfl⟩ := ho1.form; obtain ⟨N1, hN1⟩ : ∃ N1, (sfF m (L.take j) ++ [r]).length = N1 := ⟨_, rfl⟩; rw [hN1] at ho1 h6 ⊢; clear hN1; have HTP := hide ((HTQ.out.push ho1 hgr h6)); have HBP := hide (below_push HBQ.out HTQ.out.a (by omega) hgr); clear ho1 hgr h6))
              go_roundw
              case rel => exact ⟨j + 1, N1, N5, N7, c9, c5, c7, A9, A5, A7, by omega, by go_num, rfl, rfl, rfl, by rw [HTK.out, sfF_snoc, plF_snoc, nmF_snoc, HSV.out, HAR.out]; simpa using HTP.out, HBP.out⟩
              case measure => simp [Go.RowKit.intOf]; omega
        · obtain rfl : j = M := by omega
          have htk : L.take j = L := List.take_of_length_le (by rw [HML.out]; exact Nat.le_refl _)
          rw [htk] at HT
          clear htk hs
          have hls := HT.out.c.slo (S' := fun b => (Value.slice A7 N7 c7).ownBlock = some b) (fun b _ h => h.elim (fun f => f.elim) id)
          have HSC := hide hls
          have hcl := HT.out.c.below_
          have HCL := hide hcl
          have hj4 : (plF m L).length = N5 := HT.out.b.sl (S' := fun _ => True) (fun _ _ _ => trivial) |>.len
          have HJ4 := hide hj4
          clear hls hcl hj4 m0 m1 m2 m3
          go_wp2_with (at_builtin; refine wpList_push_sl (α := Int) wr rfl (.tmp 50) (.tmp 51) 22 rfl W3.heap.size 3 i0 _ 8 Try.underlying22 HI0.out HZ.out HZ1.out HZ2.out rfl (by decide) (fun _ => False) (fun b => (Value.slice A7 N7 c7).ownBlock = some b) (fun b => (Value.slice A7 N7 c7).ownBlock = some b) (.slice A5 N5 c5) (plF m L) (nmF m L) rfl HT.out.b A7 N7 c7 rfl HSC.out (fun _ h => h.elim) (fun _ _ h => h) (fun g h h2 => HT.out.bc g h h2) (fun b hb => (HCL.out b hb).2) (by rw [HJ4.out]; omega) (by rw [HJ4.out]; omega) (by omega) ?_; intro v' w' ho1 hgr h6; obtain ⟨A9, c9, rfl⟩ := ho1.form; obtain ⟨N1, hN1⟩ : ∃ N1, (plF m L ++ nmF m L).length = N1 := ⟨_, rfl⟩; rw [hN1] at ho1 h6 ⊢; clear hN1; have HO := hide ho1.ints; have HG := hide hgr; have H6 := hide h6; clear ho1 hgr h6)
          go_ret2
          have hsz := HG.out.size
          have hzw' := HBW.out.size
          refine ⟨.slice A4 N4 c4, .slice A9 N1 c9, rfl, ?_, HO.out.lowB (by omega), fun g e e2 => ?_, ?_⟩
          · exact (HT.out.a.keep hsz (fun _ f => f.elim) fun r e => HG.out.block r (HT.out.a.below_ r e).2 fun e2 => HT.out.ab r e e2.symm).lowB (by omega)
          · rcases H6.out with h | h
            · exact HT.out.ab g e (h ▸ e2)
            · rw [h] at e2; injection e2 with e2; have := (HT.out.a.below_ g e).2; omega
          · rw [hg]
            exact ((HB0.out.trans (HB3.out.mono (by omega))).trans (HBW.out.mono (by omega))).grown HG.out (by omega) fun r e => by have := (HT.out.b.below_ r e).1; omega
    · obtain ⟨A', hA'⟩ : ∃ A', Option.map (fun x : Addr => x.add k) A = A' := ⟨_, rfl⟩
      have hsd : Sl W2 (fun _ => True) A' (N - k) (c - k) ((row24 m).drop k) := by
        rw [← hA']
        exact Sl.dropA_ HSL.out hNk hck
      refine hide ?_
      go_wp2_with (go_at_call 19; refine Hd.out ?_)
      clear hA'
      obtain ⟨N', hN'⟩ : ∃ N', N - k = N' := ⟨_, rfl⟩
      obtain ⟨C', hC'⟩ : ∃ C', c - k = C' := ⟨_, rfl⟩
      rw [hN', hC'] at hsd ⊢
      have hN64' : N' ≤ 64 := by omega
      clear hN' hC'
      have HSD := hide hsd
      have HV := hide ((callsIn_wide (n := 1)).1 (values_in Fence.wide 1 trivial rfl A' N' C' W2))
      have HSO := hide ((callsIn_wide (n := 8)).1 (sortedVals_in 8 (by omega) _ A' N' C' _ W2 hsd (by omega)))
      clear hsd
      refine hide ?_
      go_wp2_with (first
        | (go_at_call 19; (with_reducible refine HV.out.mono ?_); rintro e _ ⟨rfl, rfl⟩)
        | (go_at_call 18; (with_reducible refine HSO.out.mono ?_); rintro e W3 ⟨v3, rfl, ho3, hb3⟩; obtain ⟨A3, c3, rfl⟩ := ho3.form; refine Hd.out ?_))
      rw [HLE.out] at ho3 ⊢
      obtain ⟨M, hM⟩ : ∃ M, L.length = M := ⟨_, rfl⟩
      rw [hM] at ho3 hll ⊢
      have hBW3 : Below W0.heap.size W0 W3 := HB1.out.trans ((HB2.out.mono (by omega)).trans (((Below.refl _ W2).alloc (Nat.le_refl _) _).mono (by have := HB2.out.size; omega) |>.trans (hb3.mono (by simp; have := HB2.out.size; omega))))
      have hs3 := hBW3.size
      have HB3 := hide hBW3
      have HSL3 := hide (ho3.slo (S' := fun b => b < W3.heap.size) (fun b hb _ => hb))
      clear ho3 hb3 hBW3
      obtain ⟨i0, hi0, hz, hz1, hz2⟩ := info_parts info_int2
      have HI0 := hide hi0; have HZ := hide hz; have HZ1 := hide hz1; have HZ2 := hide hz2
      clear hi0 hz hz1 hz2
      have hMl := hM
      have HML := hide hM
      clear hM hMl HV HSO HSD HSL
      refine hide ?_
      go_wp2_with fail
      go_loopw [4, 5, 7, 22] (fun a b c i wr => ∃ (j N4 N5 N7 c4 c5 c7 : Nat) (A4 A5 A7 : Option Addr), j ≤ M ∧ i = .int .i64 j ∧ a = .slice A4 N4 c4 ∧ b = .slice A5 N5 c5 ∧ c = .slice A7 N7 c7 ∧ T3 W3.heap.size (.slice A4 N4 c4) (.slice A5 N5 c5) (.slice A7 N7 c7) (sfF m (L.take j)) (plF m (L.take j)) (nmF m (L.take j)) wr ∧ Below W3.heap.size W3 wr) (fun _ _ _ i _ => M - (Go.RowKit.intOf i).toNat)
      case atStart => exact ⟨0, 0, 0, 0, 0, 0, 0, none, none, none, Nat.zero_le _, rfl, rfl, rfl, rfl, ⟨OwnL.nil_ _ _ _ _, OwnL.nil_ _ _ _ _, OwnL.nil_ _ _ _ _, fun _ e => (by cases e), fun _ e => (by cases e), fun _ e => (by cases e)⟩, Below.refl _ _⟩
      case round =>
        obtain ⟨j, N4, N5, N7, c4, c5, c7, A4, A5, A7, hj, rfl, rfl, rfl, rfl, hT, hbw⟩ := hrel
        have HT := hide hT; have HBW := hide hbw
        have hzw := hbw.size
        have hb0w : Below W0.heap.size W0 wr := HB3.out.trans (hbw.mono (by omega))
        obtain ⟨m0, m1, m2, m3, hgl⟩ := HM.out wr hb0w
        have HS1 := hide (H1.out.belowAll hb0w); have HS2 := hide (H2.out.belowAll hb0w)
        have hs := HSL3.out.below hbw (fun b hb => hb)
        have l4 : N4 ≤ 64 := by
          have := hT.a.sl (S' := fun _ => True) (fun _ _ _ => trivial) |>.len
          rw [← this]; exact Nat.le_trans (List.length_filter_le _ _) (by rw [List.length_take]; omega)
        have l5 : N5 ≤ 64 := by
          have := hT.b.sl (S' := fun _ => True) (fun _ _ _ => trivial) |>.len
          rw [← this]; exact Nat.le_trans (List.length_filter_le _ _) (by rw [List.length_take]; omega)
        have l7 : N7 ≤ 64 := by
          have := hT.c.sl (S' := fun _ => True) (fun _ _ _ => trivial) |>.len
          rw [← this]; exact Nat.le_trans (List.length_filter_le _ _) (by rw [List.length_take]; omega)
        clear hT hbw hb0w
        by_cases hlt : j < M
        · obtain ⟨b1, o1, r, rfl, hb1, hr, hri, d1⟩ := at_int hs hlt
          have HTK := hide (take_at hr); have HRI := hide hri
          clear hr hri hs
          have HIS := hide (isSaved5_any wr _ m (.slice A1 n1 c1) A2 n2 c2 HS2.out r)
          go_wp2_with (go_at_call 13; (with_reducible refine HIS.out.mono ?_); rintro e _ ⟨rfl, u4, rfl⟩; refine Hd.out ?_)
          obtain ⟨Wq, hWq⟩ : ∃ Wq, wr.ext u4 = Wq := ⟨_, rfl⟩
          rw [hWq]
          have HTQ := hide (show T3 W3.heap.size (.slice A4 N4 c4) (.slice A5 N5 c5) (.slice A7 N7 c7) (sfF m (L.take j)) (plF m (L.take j)) (nmF m (L.take j)) Wq by rw [← hWq]; exact HT.out.ext u4)
          have hbq : Below W3.heap.size W3 Wq := by rw [← hWq]; exact HBW.out.ext hzw u4
          have hzq := hbq.size
          have hb0q : Below W0.heap.size W0 Wq := HB3.out.trans (hbq.mono (by omega))
          have HBQ := hide hbq
          obtain ⟨m0, m1, m2, m3, hgl⟩ := HM.out Wq hb0q
          have HCN := hide (contains5_any Wq _ A1 n1 c1 m.args r (H1.out.belowAll hb0q))
          clear hWq hbq hb0q HT HBW HIS HS1 HS2
          cases hsv : hasI r m.saved with
          | false =>
            have HSV := hide hsv
            clear hsv
            refine hide ?_
            go_wp2_with (first
              | (go_at_call 25; (with_reducible refine HCN.out.mono ?_); rintro e _ ⟨rfl, rfl⟩)
              | (at_builtin; refine wpList_push (α := Int) Wq [.int .i64 r] 3 rfl (.tmp 35) (.tmp 37) 22 rfl W3.heap.size 3 i0 _ 8 Try.underlying22 HI0.out HZ.out HZ1.out HZ2.out rfl (by decide) (fun _ => False) (fun _ => False) (.slice A5 N5 c5) _ r rfl HTQ.out.b Wq.heap.size rfl rfl ⟨rfl, HRI.out⟩ (fun _ h => h) (fun _ _ h => h) (fun _ h => h.elim) (by rw [HTQ.out.b.sl (fun _ _ _ => trivial) (S' := fun _ => True) |>.len]; omega) (by rw [HTQ.out.b.sl (fun _ _ _ => trivial) (S' := fun _ => True) |>.len]; omega) (by omega) ?_; intro v' w' ho1 hgr h6; obtain ⟨A9, c9, rfl⟩ := ho1.form; obtain ⟨N1, hN1⟩ : ∃ N1, (plF m (L.take j) ++ [r]).length = N1 := ⟨_, rfl⟩; rw [hN1] at ho1 h6 ⊢; clear hN1; have HTP := hide ((HTQ.out.rot.push ho1 hgr h6).rot.rot); have HBP := hide (below_push HBQ.out HTQ.out.b (by omega) hgr); clear ho1 hgr h6))
            go_roundw
            case rel => exact ⟨j + 1, N4, N1, N7, c4, c9, c7, A4, A9, A7, by omega, by go_num, rfl, rfl, rfl, by rw [HTK.out, sfF_snoc, plF_snoc, nmF_snoc, HSV.out]; simpa using HTP.out, HBP.out⟩
            case measure => simp [Go.RowKit.intOf]; omega
          | true =>
            have HSV := hide hsv
            clear hsv
            cases har : hasI r m.args with
            | true =>
              rw [har] at HCN
              have HAR := hide har
              clear har
              refine hide ?_
              go_wp2_with (first
              | (go_at_call 25; (with_reducible refine HCN.out.mono ?_); rintro e _ ⟨rfl, rfl⟩)
              | (at_builtin; refine wpList_push (α := Int) Wq [.int .i64 r] 3 rfl (.tmp 44) (.tmp 46) 22 rfl W3.heap.size 3 i0 _ 8 Try.underlying22 HI0.out HZ.out HZ1.out HZ2.out rfl (by decide) (fun _ => False) (fun _ => False) (.slice A7 N7 c7) _ r rfl HTQ.out.c Wq.heap.size rfl rfl ⟨rfl, HRI.out⟩ (fun _ h => h) (fun _ _ h => h) (fun _ h => h.elim) (by rw [HTQ.out.c.sl (fun _ _ _ => trivial) (S' := fun _ => True) |>.len]; omega) (by rw [HTQ.out.c.sl (fun _ _ _ => trivial) (S' := fun _ => True) |>.len]; omega) (by omega) ?_; intro v' w' ho1 hgr h6; obtain ⟨A9, c9, rfl⟩ := ho1.form; obtain ⟨N1, hN1⟩ : ∃ N1, (nmF m (L.take j) ++ [r]).length = N1 := ⟨_, rfl⟩; rw [hN1] at ho1 h6 ⊢; clear hN1; have HTP := hide ((HTQ.out.rot.rot.push ho1 hgr h6).rot); have HBP := hide (below_push HBQ.out HTQ.out.c (by omega) hgr); clear ho1 hgr h6))
              go_roundw
              case rel => exact ⟨j + 1, N4, N5, N1, c4, c5, c9, A4, A5, A9, by omega, by go_num, rfl, rfl, rfl, by rw [HTK.out, sfF_snoc, plF_snoc, nmF_snoc, HSV.out, HAR.out]; simpa using HTP.out, HBP.out⟩
              case measure => simp [Go.RowKit.intOf]; omega
            | false =>
              rw [har] at HCN
              have HAR := hide har
              clear har
              refine hide ?_
              go_wp2_with (first
              | (go_at_call 25; (with_reducible refine HCN.out.mono ?_); rintro e _ ⟨rfl, rfl⟩)
              | (at_builtin; refine wpList_push (α := Int) Wq [.int .i64 r] 3 rfl (.tmp 26) (.tmp 28) 22 rfl W3.heap.size 3 i0 _ 8 Try.underlying22 HI0.out HZ.out HZ1.out HZ2.out rfl (by decide) (fun _ => False) (fun _ => False) (.slice A4 N4 c4) _ r rfl HTQ.out.a Wq.heap.size rfl rfl ⟨rfl, HRI.out⟩ (fun _ h => h) (fun _ _ h => h) (fun _ h => h.elim) (by rw [HTQ.out.a.sl (fun _ _ _ => trivial) (S' := fun _ => True) |>.len]; omega) (by rw [HTQ.out.a.sl (fun _ _ _ => trivial) (S' := fun _ => True) |>.len]; omega) (by omega) ?_; intro v' w' ho1 hgr h6; obtain ⟨A9, c9, rfl⟩ := ho1.form; obtain ⟨N1, hN1⟩ : ∃ N1, (sfF m (L.take j) ++ [r]).length = N1 := ⟨_, rfl⟩; rw [hN1] at ho1 h6 ⊢; clear hN1; have HTP := hide ((HTQ.out.push ho1 hgr h6)); have HBP := hide (below_push HBQ.out HTQ.out.a (by omega) hgr); clear ho1 hgr h6))
              go_roundw
              case rel => exact ⟨j + 1, N1, N5, N7, c9, c5, c7, A9, A5, A7, by omega, by go_num, rfl, rfl, rfl, by rw [HTK.out, sfF_snoc, plF_snoc, nmF_snoc, HSV.out, HAR.out]; simpa using HTP.out, HBP.out⟩
              case measure => simp [Go.RowKit.intOf]; omega
        · obtain rfl : j = M := by omega
          have htk : L.take j = L := List.take_of_length_le (by rw [HML.out]; exact Nat.le_refl _)
          rw [htk] at HT
          clear htk hs
          have hls := HT.out.c.slo (S' := fun b => (Value.slice A7 N7 c7).ownBlock = some b) (fun b _ h => h.elim (fun f => f.elim) id)
          have HSC := hide hls
          have hcl := HT.out.c.below_
          have HCL := hide hcl
          have hj4 : (plF m L).length = N5 := HT.out.b.sl (S' := fun _ => True) (fun _ _ _ => trivial) |>.len
          have HJ4 := hide hj4
          clear hls hcl hj4 m0 m1 m2 m3
          go_wp2_with (at_builtin; refine wpList_push_sl (α := Int) wr rfl (.tmp 50) (.tmp 51) 22 rfl W3.heap.size 3 i0 _ 8 Try.underlying22 HI0.out HZ.out HZ1.out HZ2.out rfl (by decide) (fun _ => False) (fun b => (Value.slice A7 N7 c7).ownBlock = some b) (fun b => (Value.slice A7 N7 c7).ownBlock = some b) (.slice A5 N5 c5) (plF m L) (nmF m L) rfl HT.out.b A7 N7 c7 rfl HSC.out (fun _ h => h.elim) (fun _ _ h => h) (fun g h h2 => HT.out.bc g h h2) (fun b hb => (HCL.out b hb).2) (by rw [HJ4.out]; omega) (by rw [HJ4.out]; omega) (by omega) ?_; intro v' w' ho1 hgr h6; obtain ⟨A9, c9, rfl⟩ := ho1.form; obtain ⟨N1, hN1⟩ : ∃ N1, (plF m L ++ nmF m L).length = N1 := ⟨_, rfl⟩; rw [hN1] at ho1 h6 ⊢; clear hN1; have HO := hide ho1.ints; have HG := hide hgr; have H6 := hide h6; clear ho1 hgr h6)
          go_ret2
          have hsz := HG.out.size
          have hzw' := HBW.out.size
          refine ⟨.slice A4 N4 c4, .slice A9 N1 c9, rfl, ?_, HO.out.lowB (by omega), fun g e e2 => ?_, ?_⟩
          · exact (HT.out.a.keep hsz (fun _ f => f.elim) fun r e => HG.out.block r (HT.out.a.below_ r e).2 fun e2 => HT.out.ab r e e2.symm).lowB (by omega)
          · rcases H6.out with h | h
            · exact HT.out.ab g e (h ▸ e2)
            · rw [h] at e2; injection e2 with e2; have := (HT.out.a.below_ g e).2; omega
          · rw [hg]
            exact ((HB0.out.trans (HB3.out.mono (by omega))).trans (HBW.out.mono (by omega))).grown HG.out (by omega) fun r e => by have := (HT.out.b.below_ r e).1; omega
end Go.Proofs.Ytbppamjogdjfkaa
