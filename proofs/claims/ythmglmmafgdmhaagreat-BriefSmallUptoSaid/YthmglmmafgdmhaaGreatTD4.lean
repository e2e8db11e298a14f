/- Walks: the document's: the rows of a brief's colors; how many. -/
import Derived.Test.YthmglmmafgdmhaaGreatT1
set_option linter.unusedSimpArgs false
set_option linter.unusedVariables false
namespace Go.Proofs.YthmglmmafgdmhaaGreat
open Go.RowKit Go.Maps

/-- The rows of the first colors. -/
def rowsTo (b : Brief) (n : Nat) : List (List Int) := (((List.range n).map fun i : Nat => (i : Int) + 0).filter fun c => !(rowC c (vcB b)).isEmpty).map fun c => rowC c (vcB b)
theorem rowsTo_all {b : Brief} (h : rightB b = true) : rowsTo b 64 = apartB b := by unfold rowsTo apartB; rw [h, colorsB_eq]; simp
theorem rowsTo_succ (b : Brief) (n : Nat) : rowsTo b (n + 1) = rowsTo b n ++ (if rowC (n : Int) (vcB b) = [] then [] else [rowC (n : Int) (vcB b)]) := by
  unfold rowsTo
  rw [List.range_succ, List.map_append, List.filter_append, List.map_append]
  congr 1
  by_cases h : rowC (n : Int) (vcB b) = []
  · simp [h]
  · have : (rowC (n : Int) (vcB b)).isEmpty = false := by cases hr : rowC (n : Int) (vcB b) with | nil => exact absurd hr h | cons => rfl
    simp [h, this]
theorem rowsTo_len (b : Brief) (n : Nat) : (rowsTo b n).length ≤ n := by
  unfold rowsTo
  rw [List.length_map]
  have := List.length_filter_le (fun c : Int => !(rowC c (vcB b)).isEmpty) ((List.range n).map fun i : Nat => (i : Int) + 0)
  simpa using this
/-- What has been made of the rows. -/
structure DRows (w : World) (B : Nat) (v : Value) (hs : List Hdr) (xss : List (List Int)) : Prop where
  len : hs.length = xss.length
  own : OwnL w B 22 (fun _ => False) v hs
  rows : RowsO w B hs (fun k => (xss[k]?).getD [])
theorem DRows.belowAll {w w' : World} {B : Nat} {v : Value} {hs : List Hdr} {xss : List (List Int)} (h : DRows w B v hs xss) (hb : Below w.heap.size w w') : DRows w' B v hs xss :=
  ⟨h.len, h.own.keep hb.size (fun _ hf => hf.elim) fun g hg => hb.block g (h.own.below_ g hg).2, h.rows.belowAll hb⟩
theorem DRows.nil (w : World) (B : Nat) : DRows w B (.slice none 0 0) [] [] := ⟨rfl, OwnL.nil_ _ _ _ _, ⟨fun k h hk => by simp at hk, fun j k x y g hj => by simp at hj⟩⟩
theorem DRows.snoc {w2 w w1 : World} {B : Nat} {v v' : Value} {hs : List Hdr} {xss : List (List Int)} {h : Hdr} {xs : List Int} {us : Array Value} {T : TypeId} (D : DRows w2 B v hs xss) (hb : Below w2.heap.size w2 w) (hr : OwnL w w2.heap.size 3 (fun _ => False) h.v xs) (hB : B ≤ w2.heap.size)
    (hg : (w.alloc (.cells us T)).grownBy w1 v.ownBlock) (ho : OwnL w1 B 22 (fun _ => False) v' (hs ++ [h])) : DRows w1 B v' (hs ++ [h]) (xss ++ [xs]) := by
  have D1 := D.belowAll hb
  have hkeep : ∀ g, g < w.heap.size → (∃ cur, w.heap[g]? = some (.cells cur 3 (0, 0))) → w1.heap[g]? = w.heap[g]? := fun g hl ⟨cur, hc⟩ => by
    refine (hg.block g (by simp; omega) fun e => ?_).trans (Below.heap_alloc w _ g hl)
    obtain ⟨cur', hc'⟩ := D1.own.cellsB e.symm
    rw [hc] at hc'
    injection hc' with hc'
    injection hc' with _ hc'
    exact absurd hc' (by decide)
  have hs1 : w.heap.size ≤ w1.heap.size := by have := hg.size; simp at this; omega
  have hrow : ∀ k x, (hs ++ [h])[k]? = some x → (k < hs.length ∧ hs[k]? = some x) ∨ (k = hs.length ∧ x = h) := fun k x hk => by
    rcases Nat.lt_trichotomy k hs.length with hl | hl | hl
    · rw [List.getElem?_append_left hl] at hk; exact .inl ⟨hl, hk⟩
    · subst hl; rw [List.getElem?_append_right (Nat.le_refl _), Nat.sub_self] at hk; exact .inr ⟨rfl, by injection hk with hk; exact hk.symm⟩
    · rw [List.getElem?_eq_none (by simp; omega)] at hk; cases hk
  refine ⟨by simp [D.len], ho, ⟨fun k x hk => ?_, fun j k x y g hj hk hne hx hy => ?_⟩⟩
  · rcases hrow k x hk with ⟨hl, hk'⟩ | ⟨rfl, rfl⟩
    · have := D1.rows.own k x hk'
      show OwnL _ _ _ _ _ (((xss ++ [xs])[k]?).getD [])
      rw [List.getElem?_append_left (by have := D.len; omega)]
      exact this.keep hs1 (fun _ hf => hf.elim) fun g hg' => hkeep g (this.below_ g hg').2 (this.cellsB hg')
    · show OwnL _ _ _ _ _ (((xss ++ [xs])[hs.length]?).getD [])
      rw [D.len, List.getElem?_append_right (Nat.le_refl _), Nat.sub_self]
      exact (hr.lowB hB).keep hs1 (fun _ hf => hf.elim) fun g hg' => hkeep g (hr.below_ g hg').2 (hr.cellsB hg')
  · rcases hrow j x hj with ⟨_, hj'⟩ | ⟨hj1, rfl⟩
    · rcases hrow k y hk with ⟨_, hk'⟩ | ⟨_, rfl⟩
      · exact D.rows.ne j k x y g hj' hk' hne hx hy
      · have := (D.rows.lt hj' hx).2; have := (hr.below_ g hy).1; omega
    · rcases hrow k y hk with ⟨_, hk'⟩ | ⟨hk1, rfl⟩
      · have := (D.rows.lt hk' hy).2; have := (hr.below_ g hx).1; omega
      · omega
theorem rightB_any' (w : World) (b : Brief) (A1 A2 A3 : Option Addr) (n1 c1 n2 c2 n3 c3 : Nat) (h1 : Sl w (fun _ => True) A1 n1 c1 b.vars) (h2 : Sl w (fun _ => True) A2 n2 c2 b.colors) (h3 : Sl w (fun _ => True) A3 n3 c3 b.edge) :
    Calls Tryz.prog 21 #[.agg #[.slice A1 n1 c1, .slice A2 n2 c2, .slice A3 n3 c3]] w (RetX (.bool (rightB b)) w) := dright_any w _ b A1 A2 A3 n1 c1 n2 c2 n3 c3 h1 h2 h3
set_option maxRecDepth 100000 in
set_option maxHeartbeats 8000000 in
theorem dapart_any (w : World) (S : Nat → Prop) (b : Brief) (A1 A2 A3 : Option Addr) (n1 c1 n2 c2 n3 c3 : Nat) (h1 : Sl w S A1 n1 c1 b.vars) (h2 : Sl w S A2 n2 c2 b.colors) (h3 : Sl w S A3 n3 c3 b.edge) :
    Calls Tryz.prog 25 #[.agg #[.slice A1 n1 c1, .slice A2 n2 c2, .slice A3 n3 c3]] w (RetRows (apartB b) w) := by
  have L1 := h1.len; have L2 := h2.len; have L3 := h3.len
  obtain ⟨W0, hW0⟩ : ∃ W0, w.alloc (.cells #[.slice A1 n1 c1, .slice A2 n2 c2, .slice A3 n3 c3] 46) = W0 := ⟨_, rfl⟩
  obtain ⟨g, hg⟩ : ∃ g, w.heap.size = g := ⟨_, rfl⟩
  have hrow : W0.heap[g]? = some (.cells #[.slice A1 n1 c1, .slice A2 n2 c2, .slice A3 n3 c3] 46 (0, 0)) := by rw [← hW0, ← hg]; exact heap_alloc_new w _
  have hgl : g < W0.heap.size := by rw [← hW0, ← hg]; simp
  have HB0 := hide (show Below w.heap.size w W0 by rw [← hW0]; exact (Below.refl _ _).alloc (Nat.le_refl _) _)
  have K1 := hide (show Sl W0 (fun _ => True) A1 n1 c1 b.vars by rw [← hW0]; exact (h1.alloc _).more fun _ _ _ => trivial)
  have K2 := hide (show Sl W0 (fun _ => True) A2 n2 c2 b.colors by rw [← hW0]; exact (h2.alloc _).more fun _ _ _ => trivial)
  have K3 := hide (show Sl W0 (fun _ => True) A3 n3 c3 b.edge by rw [← hW0]; exact (h3.alloc _).more fun _ _ _ => trivial)
  have HK := hide (fun (W : World) (hb : Below W0.heap.size W0 W) => show W.cell? ⟨g, 0, none⟩ = some (.slice A1 n1 c1) ∧ W.cell? ⟨g, 1, none⟩ = some (.slice A2 n2 c2) ∧ W.cell? ⟨g, 2, none⟩ = some (.slice A3 n3 c3) ∧ g < W.heap.size from by
    have h := (hb.block g hgl).trans hrow
    exact ⟨cell_of_row W g _ _ _ (0, 0) h, cell_of_row W g _ _ _ (0, 0) h, cell_of_row W g _ _ _ (0, 0) h, (Array.getElem?_eq_some_iff.1 h).1⟩)
  have hw0 : w.heap.size ≤ W0.heap.size := HB0.out.size
  obtain ⟨i0, hi, hz, hz1, hz2⟩ := info_parts info_int
  have HI0 := hide hi; have HZ := hide hz; have HZ1 := hide hz1; have HZ2 := hide hz2
  obtain ⟨i1, hj, hy, hy1, hy2⟩ := info_parts info_sl
  have HJ0 := hide hj; have HY := hide hy; have HY1 := hide hy1; have HY2 := hide hy2
  clear h1 h2 h3 hrow hi hz hz1 hz2 hj hy hy1 hy2
  go_enter Tryz.func25, Tryz.ntmps25
  go_wp2_with fail
  go_loopw [3, 4] (fun o i wr => ∃ (k : Nat) (hs : List Hdr), k ≤ 64 ∧ i = .int .i64 k ∧ (k = 0 ∨ rightB b = true) ∧ DRows wr W0.heap.size o hs (rowsTo b k) ∧ Below W0.heap.size W0 wr) (fun _ i _ => 64 - (intOf i).toNat)
  case atStart => exact ⟨0, [], by decide, rfl, .inl rfl, DRows.nil _ _, Below.refl _ _⟩
  case round =>
    obtain ⟨k, hs, hk, rfl, hkr, hdr, hbq⟩ := hrel
    obtain ⟨k0, k1, k2, hgw⟩ := HK.out wr hbq
    have HR := hide (rightB_any' wr b A1 A2 A3 n1 c1 n2 c2 n3 c3 (K1.out.belowAll hbq) (K2.out.belowAll hbq) (K3.out.belowAll hbq))
    have HDR := hide hdr; have HBQ := hide hbq
    have hwq := hbq.size
    clear hdr hbq
    by_cases hlt : k < 64
    · cases hr : rightB b with
      | false =>
        have hk0 : k = 0 := by
          rcases hkr with h | h
          · exact h
          · rw [hr] at h; cases h
        subst hk0
        have hR := HR.out
        rw [hr] at hR
        have HR2 := hide hR
        clear HR hR
        go_wp2_with (go_at_call 21; (with_reducible refine (HR2.out).mono ?_); rintro e _ ⟨rfl, ux, rfl⟩)
        obtain ⟨A', c', hv'⟩ := HDR.out.own.form
        go_ret
        have e : apartB b = [] := by unfold apartB; rw [hr]; rfl
        rw [e]
        exact ⟨_, hs, rfl, HDR.out.len, ((HDR.out.own.ext _).lowB hw0), ⟨fun k h hk => ((HDR.out.rows.own k h hk).ext _).lowB hw0, HDR.out.rows.ne⟩, HB0.out.trans ((HBQ.out.ext hwq _).mono hw0)⟩
      | true =>
        have R := rightB_of hr
        have hR := HR.out
        rw [hr] at hR
        have HR2 := hide hR
        have hki : (k : Int) < 64 := by omega
        clear HR hR k0 k1 k2 hgw
        obtain ⟨k0, k1, k2, hgw⟩ := HK.out wr HBQ.out
        go_wp2_with (go_at_call 21; (with_reducible refine HR2.out.mono ?_); rintro e _ ⟨rfl, u2, rfl⟩; refine Hd.out ?_)
        obtain ⟨W2, hW2⟩ : ∃ W2, wr.ext u2 = W2 := ⟨_, rfl⟩
        have HB2 := hide (show Below W0.heap.size W0 W2 by rw [← hW2]; exact HBQ.out.ext hwq u2)
        have HD2 := hide (show DRows W2 W0.heap.size u3 hs (rowsTo b k) by rw [← hW2]; exact HDR.out.belowAll (Below.of_ext wr u2 (Nat.le_refl _)))
        rw [hW2]
        have hw2 := HB2.out.size
        have hn12 : n2 = n1 := by have := R.lc; omega
        have hn1B : n1 ≤ 200 := by have := rising_few R.rise; omega
        subst hn12
        clear hW2 HDR HBQ HR2 hwq k0 k1 k2 hgw
        obtain ⟨k0, k1, k2, hgw⟩ := HK.out W2 HB2.out
        refine hide ?_
        go_wp2_with fail
        clear k0 k1 k2 hgw
        go_loopw [5, 6] (fun r i wr => ∃ j : Nat, j ≤ n2 ∧ i = .int .i64 j ∧ OwnL wr W2.heap.size 3 (fun _ => False) r (rowC k ((vcB b).take j)) ∧ Below W2.heap.size W2 wr) (fun _ i _ => n2 - (intOf i).toNat)
        case atStart => exact ⟨0, Nat.zero_le _, rfl, by show OwnL _ _ _ _ _ ([] : List Int); exact OwnL.nil_ _ _ _ _, Below.refl _ _⟩
        case round =>
          obtain ⟨j, hj, rfl, hoq, hbq⟩ := hrel
          have HOQ := hide hoq; have HBQ := hide hbq
          have hwq := hbq.size
          have hb0 : Below W0.heap.size W0 wr := HB2.out.trans (hbq.mono hw2)
          obtain ⟨k0, k1, k2, hgw⟩ := HK.out wr hb0
          have s1 := K1.out.belowAll hb0
          have s2 := K2.out.belowAll hb0
          have hoB := hoq.below_
          clear hoq hbq
          by_cases hltj : j < n2
          · obtain ⟨g1, o1, v, rfl, hb1, hv, hvi, d1⟩ := at_int s1 hltj
            obtain ⟨g2, o2, c, rfl, hb2, hc, hci, d2⟩ := at_int s2 hltj
            have HT := hide (show rowC (k : Int) ((vcB b).take (j + 1)) = if c = (k : Int) then rowC k ((vcB b).take j) ++ [v] else rowC k ((vcB b).take j) by rw [take_at (vc_at hv hc), rowC_snoc])
            have hji : (j : Int) < n2 := by omega
            have HIN := hide hvi
            have hln : (rowC (k : Int) ((vcB b).take j)).length ≤ 200 := by
              unfold rowC
              rw [List.length_map]
              have h1 := List.length_filter_le (fun p : Int × Int => p.2 == (k : Int)) ((vcB b).take j)
              rw [List.length_take] at h1
              omega
            clear hv hc hvi hci s1 s2 hb0
            by_cases hck : c = (k : Int)
            · rw [if_pos hck] at HT
              have hd1 : (c == (k : Int)) = true := by simpa using hck
              have hd2 : decide (c = (k : Int)) = true := decide_eq_true hck
              go_wp2_with (at_builtin; refine wpList_push (α := Int) wr [.int .i64 v] 3 rfl (.tmp 29) (.tmp 35) 22 rfl W2.heap.size 3 i0 _ 8 Tryz.underlying22 HI0.out HZ.out HZ1.out HZ2.out rfl (by decide) (fun _ => False) (fun _ => False) u5 _ v rfl HOQ.out _ rfl rfl ⟨rfl, HIN.out⟩ (fun _ h => h) (fun _ _ h => h) (fun _ h => h.elim) (by omega) (by omega) hwq ?_; intro v' w1 hown' hg _; have HO' := hide hown'; have HG := hide hg; clear hown' hg)
              go_roundw
              case rel => exact ⟨j + 1, by omega, by go_num, by rw [HT.out]; exact HO'.out, (HBQ.out.alloc (by omega) _).grown HG.out (by simp; omega) fun r e => (hoB r e).1⟩
              case measure => simp [intOf]; omega
            · rw [if_neg hck] at HT
              have hd1 : (c == (k : Int)) = false := by simpa using hck
              have hd2 : decide (c = (k : Int)) = false := decide_eq_false hck
              go_wp2_with fail
              first
                | (go_roundw; case rel => exact ⟨j + 1, by omega, by go_num, by rw [HT.out]; exact HOQ.out, HBQ.out⟩; case measure => simp [intOf]; omega)
                | exact ⟨⟨j + 1, by omega, by go_num, by rw [HT.out]; exact HOQ.out, HBQ.out⟩, by simp [intOf]; omega⟩
          · have hjn : j = n2 := by omega
            subst hjn
            have htk : (vcB b).take j = vcB b := List.take_of_length_le (by rw [vc_len R]; omega)
            rw [htk] at HOQ
            clear s1 s2 htk
            obtain ⟨A5, c5, rfl⟩ := HOQ.out.form
            obtain ⟨n5, hn5⟩ : ∃ n5, (rowC (k : Int) (vcB b)).length = n5 := ⟨_, rfl⟩
            rw [hn5] at HOQ hoB ⊢
            have HD3 := hide (HD2.out.belowAll HBQ.out)
            have hlr := rowsTo_len b k
            have hhl : hs.length ≤ 64 := by have := HD2.out.len; omega
            have hoR := HD3.out.own.below_
            have hrl := HD2.out
            by_cases h0 : n5 = 0
            · have he : rowC (k : Int) (vcB b) = [] := List.eq_nil_of_length_eq_zero (by omega)
              have HT := hide (show rowsTo b (k + 1) = rowsTo b k by rw [rowsTo_succ, if_pos he, List.append_nil])
              subst h0
              clear hrl hn5
              go_wp2_with fail
              first
                | (go_roundw; case rel => exact ⟨k + 1, hs, by omega, by go_num, .inr (by first | exact hr | trivial), by rw [HT.out]; exact HD3.out, HB2.out.trans (HBQ.out.mono hw2)⟩; case measure => simp [intOf]; omega)
                | exact ⟨⟨k + 1, hs, by omega, by go_num, .inr (by first | exact hr | trivial), by rw [HT.out]; exact HD3.out, HB2.out.trans (HBQ.out.mono hw2)⟩, by simp [intOf]; omega⟩
            · have hne : rowC (k : Int) (vcB b) ≠ [] := fun e => by rw [e] at hn5; exact h0 hn5.symm
              have HT := hide (show rowsTo b (k + 1) = rowsTo b k ++ [rowC (k : Int) (vcB b)] by rw [rowsTo_succ, if_neg hne])
              have h0i : (0 : Int) < n5 := by omega
              have h0n : 0 < n5 := by omega
              clear hn5
              go_wp2_with (at_builtin; refine wpList_push (α := Hdr) wr [.slice A5 n5 c5] 22 rfl (.tmp 40) (.tmp 42) 36 rfl W0.heap.size 22 i1 _ 24 Tryz.underlying36 HJ0.out HY.out HY1.out HY2.out rfl (by decide) (fun _ => False) (fun _ => False) u3 hs ⟨A5, n5, c5⟩ rfl HD3.out.own wr.heap.size rfl rfl rfl (fun _ h => h) (fun _ _ h => h) (fun _ h => h.elim) (by omega) (by omega) (by omega) ?_; intro v' w1 ho1 hgr h5; have HO1 := hide ho1; have HGR := hide hgr; clear ho1 hgr h5)
              have HDN := hide (DRows.snoc HD2.out HBQ.out HOQ.out hw2 HGR.out HO1.out)
              have HBN := hide (show Below W0.heap.size W0 w1 from ((HB2.out.trans (HBQ.out.mono hw2)).alloc (by omega) _).grown HGR.out (by simp; omega) fun r e => (hoR r e).1)
              clear hrl
              first
                | (go_roundw; case rel => exact ⟨k + 1, _, by omega, by go_num, .inr (by first | exact hr | trivial), by rw [HT.out]; exact HDN.out, HBN.out⟩; case measure => simp [intOf]; omega)
                | exact ⟨⟨k + 1, _, by omega, by go_num, .inr (by first | exact hr | trivial), by rw [HT.out]; exact HDN.out, HBN.out⟩, by simp [intOf]; omega⟩
    · have hk64 : k = 64 := by omega
      subst hk64
      have hr : rightB b = true := by
        rcases hkr with h | h
        · omega
        · exact h
      have HRT := hide (rowsTo_all hr)
      clear HR
      go_wp2_with fail
      go_ret
      rw [← HRT.out]
      exact ⟨_, hs, rfl, HDR.out.len, (HDR.out.own.lowB hw0), ⟨fun k h hk => (HDR.out.rows.own k h hk).lowB hw0, HDR.out.rows.ne⟩, HB0.out.trans (HBQ.out.mono hw0)⟩
end Go.Proofs.YthmglmmafgdmhaaGreat
