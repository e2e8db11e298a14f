/- Walks: the document's: how many colors; what is kept; rows of numbers are alike. Walks: BriefTells. -/
import Derived.Test.YthmglmmafgdmhaaGreatTD4
import Derived.Test.YthmglmmafgdmhaaGreatAP1
import Derived.Test.YthmglmmafgdmhaaGreatTD7
set_option linter.unusedSimpArgs false
set_option linter.unusedVariables false
namespace Go.Proofs.YthmglmmafgdmhaaGreat
open Go.RowKit Go.Maps

theorem dused_any (w : World) (S : Nat → Prop) (b : Brief) (A1 A2 A3 : Option Addr) (n1 c1 n2 c2 n3 c3 : Nat) (h1 : Sl w S A1 n1 c1 b.vars) (h2 : Sl w S A2 n2 c2 b.colors) (h3 : Sl w S A3 n3 c3 b.edge) :
    Calls Tryz.prog 23 #[.agg #[.slice A1 n1 c1, .slice A2 n2 c2, .slice A3 n3 c3]] w (fun e w' => e = .returned (.int .i64 (apartB b).length) ∧ Below w.heap.size w w') := by
  obtain ⟨W0, hW0⟩ : ∃ W0, w.alloc (.cells #[.slice A1 n1 c1, .slice A2 n2 c2, .slice A3 n3 c3] 46) = W0 := ⟨_, rfl⟩
  obtain ⟨g, hg⟩ : ∃ g, w.heap.size = g := ⟨_, rfl⟩
  have hrow : W0.heap[g]? = some (.cells #[.slice A1 n1 c1, .slice A2 n2 c2, .slice A3 n3 c3] 46 (0, 0)) := by rw [← hW0, ← hg]; exact heap_alloc_new w _
  have k0 : W0.cell? ⟨g, 0, none⟩ = some (.slice A1 n1 c1) := cell_of_row W0 g _ _ _ (0, 0) hrow
  have k1 : W0.cell? ⟨g, 1, none⟩ = some (.slice A2 n2 c2) := cell_of_row W0 g _ _ _ (0, 0) hrow
  have k2 : W0.cell? ⟨g, 2, none⟩ = some (.slice A3 n3 c3) := cell_of_row W0 g _ _ _ (0, 0) hrow
  have hgl : g < W0.heap.size := by rw [← hW0, ← hg]; simp
  have HB0 := hide (show Below w.heap.size w W0 by rw [← hW0]; exact (Below.refl _ _).alloc (Nat.le_refl _) _)
  have HA := hide (dapart_any W0 S b A1 A2 A3 n1 c1 n2 c2 n3 c3 (by rw [← hW0]; exact h1.alloc _) (by rw [← hW0]; exact h2.alloc _) (by rw [← hW0]; exact h3.alloc _))
  clear h1 h2 h3 hrow
  go_enter Tryz.func23, Tryz.ntmps23
  go_wp2_with (go_at_call 25; (with_reducible refine HA.out.mono ?_); rintro e W ⟨v, hs, rfl, hl, ho, _, hb⟩; obtain ⟨A, c, rfl⟩ := ho.form; rw [hl])
  go_ret
  exact ⟨rfl, HB0.out.trans (hb.mono HB0.out.size)⟩
def keptTo (l : List Brief) (q : Nat) : List Int := ((List.range q).map fun i : Nat => (i : Int) + 1).filter fun v => l.any (hasV v) && !l.any (spilV v)
theorem keptTo_succ (l : List Brief) (q : Nat) : keptTo l (q + 1) = keptTo l q ++ (if (l.any (hasV ((q : Int) + 1)) && !l.any (spilV ((q : Int) + 1))) = true then [(q : Int) + 1] else []) := by
  unfold keptTo
  rw [List.range_succ, List.map_append, List.filter_append]
  congr 1
  by_cases h : (l.any (hasV ((q : Int) + 1)) && !l.any (spilV ((q : Int) + 1))) = true
  · rw [if_pos h]; simp only [List.map_cons, List.map_nil, List.filter_cons, h, if_true, List.filter_nil]
  · rw [if_neg h]; simp only [List.map_cons, List.map_nil, List.filter_cons, h, if_false, List.filter_nil]; simp
theorem keptTo_len (l : List Brief) (q : Nat) : (keptTo l q).length ≤ q := by
  unfold keptTo
  have := List.length_filter_le (fun v : Int => l.any (hasV v) && !l.any (spilV v)) ((List.range q).map fun i : Nat => (i : Int) + 1)
  simpa using this
set_option maxRecDepth 100000 in
set_option maxHeartbeats 8000000 in
theorem dkept_any (w : World) (S : Nat → Prop) (A : Option Addr) (n c : Nat) (l : List Brief) (h : Sl w S A n c l) (hn : n ≤ 1048576) : Calls Tryz.prog 18 #[.slice A n c] w (RetInts (keptB l) w) := by
  have HL := hide h.len
  have HS := hide h
  clear h
  go_enter Tryz.func18, Tryz.ntmps18
  go_wp2
  go_loopw [4] (fun i wr => ∃ k : Nat, k ≤ n ∧ i = .int .i64 k ∧ anyF (fun b => !rightB b) l = anyF (fun b => !rightB b) (l.drop k) ∧ ∃ u, wr = w.ext u) (fun i _ => n - (intOf i).toNat)
  case atStart => exact ⟨0, Nat.zero_le _, rfl, rfl, ext_refl _⟩
  case round =>
    obtain ⟨k, hk, rfl, hr, hu⟩ := hrel
    have sl : Sl wr S A n c l := by obtain ⟨u, rfl⟩ := hu; exact HS.out.ext u
    have HR := hide hr; have HU := hide hu
    clear hr hu
    by_cases hlt : k < n
    · obtain ⟨b, off, x, A1, n1, c1, A2, n2, c2, A3, n3, c3, rfl, hb, hx, s1, s2, s3, k0, k1, k2⟩ := at_Brief sl hlt
      have HX := hide (drop_at hx)
      obtain ⟨r, hr⟩ : ∃ r, rightB x = r := ⟨_, rfl⟩
      have HW := hide (show Calls Tryz.prog 21 #[.agg #[.slice A1 n1 c1, .slice A2 n2 c2, .slice A3 n3 c3]] wr (RetX (.bool r) wr) from hr ▸ dright_any wr S x A1 A2 A3 n1 c1 n2 c2 n3 c3 s1 s2 s3)
      have HV := hide hr
      clear hx hr s1 s2 s3 sl
      cases r
      · go_wp2_with (go_at_call 21; (with_reducible refine (HW.out).mono ?_); rintro e _ ⟨rfl, ux, rfl⟩)
        go_ret
        have ha : anyF (fun b => !rightB b) l = true := by rw [HR.out, HX.out]; simp [anyF, HV.out]
        rw [keptB_wrong ha]
        exact ⟨_, rfl, OwnL.nil_ _ _ _ _, by obtain ⟨u, hu⟩ := HU.out; rw [hu]; exact (Below.of_ext w u (Nat.le_refl _)).ext (by rw [size_ext]; omega) _⟩
      · go_wp2_with (go_at_call 21; (with_reducible refine (HW.out).mono ?_); rintro e _ ⟨rfl, ux, rfl⟩)
        go_roundw
        case rel => exact ⟨k + 1, by omega, by go_num, by rw [HR.out, HX.out]; simp [anyF, HV.out], by obtain ⟨u, hu⟩ := HU.out; rw [hu]; exact ext_ext _ _ _⟩
        case measure => simp [intOf]; omega
    · have hra : anyF (fun b => !rightB b) l = false := by rw [HR.out, drop_end HL.out hlt]; rfl
      have G := all_right hra
      have HKB := hide (show keptB l = keptTo l 200 from keptB_eq hra)
      obtain ⟨i0, hi, hz, hz1, hz2⟩ := info_parts info_int
      have HI0 := hide hi; have HZ := hide hz; have HZ1 := hide hz1; have HZ2 := hide hz2
      have HB1 := hide (show Below w.heap.size w wr by obtain ⟨u, hu⟩ := HU.out; rw [hu]; exact Below.of_ext w u (Nat.le_refl _))
      have hw1 := HB1.out.size
      obtain ⟨W1, hW1⟩ : ∃ W1, wr = W1 := ⟨_, rfl⟩
      rw [hW1] at HB1 hw1 sl ⊢
      have K3 := hide sl
      clear hi hz hz1 hz2 hra sl HU HR hW1 HS
      go_wp2_with fail
      go_loopw [3, 5] (fun o i wr => ∃ q : Nat, q ≤ 200 ∧ i = .int .i64 ((q : Int) + 1) ∧ OwnL wr W1.heap.size 3 (fun _ => False) o (keptTo l q) ∧ Below W1.heap.size W1 wr) (fun _ i _ => 201 - (intOf i).toNat)
      case atStart => exact ⟨0, by decide, rfl, OwnL.nil_ _ _ _ _, Below.refl _ _⟩
      case round =>
        obtain ⟨q, hq, rfl, hoq, hbq⟩ := hrel
        have HOQ := hide hoq; have HBQ := hide hbq
        have hwq := hbq.size
        clear hoq hbq
        by_cases hlq : q < 200
        · obtain ⟨v, hv⟩ : ∃ v : Int, (q : Int) + 1 = v := ⟨_, rfl⟩
          have hv1 : v ≤ 200 := by omega
          have hv2 : 1 ≤ v := by omega
          have HVQ := hide hv
          have HKS := hide (show keptTo l (q + 1) = keptTo l q ++ (if (l.any (hasV v) && !l.any (spilV v)) = true then [v] else []) by rw [keptTo_succ, hv])
          rw [hv]
          clear hv
          go_wp2_with fail
          go_loopw [6, 7, 8] (fun a b i wr => ∃ k : Nat, k ≤ n ∧ i = .int .i64 k ∧ a = .bool ((l.take k).any (hasV v)) ∧ b = .bool ((l.take k).any (spilV v)) ∧ OwnL wr W1.heap.size 3 (fun _ => False) u3 (keptTo l q) ∧ Below W1.heap.size W1 wr) (fun _ _ i _ => n - (intOf i).toNat)
          case atStart => exact ⟨0, Nat.zero_le _, rfl, rfl, rfl, HOQ.out, HBQ.out⟩
          clear HOQ HBQ
          case round =>
            obtain ⟨k, hk, rfl, rfl, rfl, hoq, hbq⟩ := hrel
            have HOK := hide hoq; have HBK := hide hbq
            have hwk := hbq.size
            have sl := K3.out.belowAll hbq
            have hoB := hoq.below_
            clear hoq hbq
            by_cases hltk : k < n
            · obtain ⟨b, off, bx, B1, m1, d1, B2, m2, d2, B3, m3, d3, rfl, hb, hx, s1, s2, s3, k0, k1, k2⟩ := at_Brief sl hltk
              have RB := G bx (List.mem_of_getElem? hx)
              have HT1 := hide (show (l.take (k + 1)).any (hasV v) = ((l.take k).any (hasV v) || hasV v bx) by rw [take_at hx]; simp)
              have HT2 := hide (show (l.take (k + 1)).any (spilV v) = ((l.take k).any (spilV v) || spilV v bx) by rw [take_at hx]; simp)
              obtain ⟨b1, hbb1⟩ : ∃ b1, (l.take k).any (hasV v) = b1 := ⟨_, rfl⟩
              obtain ⟨b2, hbb2⟩ : ∃ b2, (l.take k).any (spilV v) = b2 := ⟨_, rfl⟩
              rw [hbb1] at HT1 ⊢
              rw [hbb2] at HT2 ⊢
              obtain ⟨yy, hyy⟩ : ∃ yy, idxF (fun x => x == v) 0 bx.vars = yy := ⟨_, rfl⟩
              have HAT := hide (show Calls Tryz.prog 37 #[.slice B1 m1 d1, .int .i64 v] wr (Ret (.int .i64 yy) wr) from hyy ▸ dat_any wr _ _ _ _ _ s1 v)
              have hki : (k : Int) < n := by omega
              have L1' := s1.len; have L2' := s2.len
              have lc := RB.lc
              clear hbb1 hbb2 hx sl
              rcases idxF_at (f := fun x => x == v) bx.vars 0 with ⟨h0, hnone⟩ | ⟨i1, x1, h0, hx1, hxv⟩
              · obtain ⟨p1, _, p2⟩ := none_at hnone
                rw [hyy] at h0
                subst h0
                rw [p1] at HT1; rw [p2] at HT2
                clear hyy hnone p1 p2 s1 s2 s3 L1' L2' lc
                cases b1 <;> cases b2
                all_goals
                  go_wp2_with (go_at_call 37; (with_reducible refine (HAT.out).mono ?_); rintro e w' ⟨rfl, rfl⟩)
                  go_roundw
                  case rel => exact ⟨k + 1, by omega, by go_num, by rw [HT1.out]; rfl, by rw [HT2.out]; rfl, HOK.out, HBK.out⟩
                  case measure => simp [intOf]; omega
              · have hx1v : x1 = v := by simpa using hxv
                subst hx1v
                have hi1 : i1 < m2 := by have := (List.getElem?_eq_some_iff.1 hx1).1; omega
                obtain ⟨g5, o5, c', rfl, hb5, hc', _, e5⟩ := at_int s2 hi1
                obtain ⟨p1, _, p2⟩ := col_at RB hx1 hc'
                rw [hyy, Nat.zero_add] at h0
                subst h0
                rw [p1] at HT1; rw [p2] at HT2
                have hi1i : (i1 : Int) < m2 := by omega
                clear hyy p1 p2 s1 s2 s3 L1' L2' lc hx1 hxv hc'
                by_cases hc0 : c' < 0
                · rw [decide_eq_true hc0] at HT2
                  have hc0' : decide (c' < 0) = true := decide_eq_true hc0
                  cases b1 <;> cases b2
                  all_goals
                    go_wp2_with (go_at_call 37; (with_reducible refine (HAT.out).mono ?_); rintro e w' ⟨rfl, rfl⟩)
                    go_roundw
                    case rel => exact ⟨k + 1, by omega, by go_num, by rw [HT1.out]; rfl, by rw [HT2.out]; rfl, HOK.out, HBK.out⟩
                    case measure => simp [intOf]; omega
                · rw [decide_eq_false hc0] at HT2
                  have hc0' : decide (c' < 0) = false := decide_eq_false hc0
                  cases b1 <;> cases b2
                  all_goals
                    go_wp2_with (go_at_call 37; (with_reducible refine (HAT.out).mono ?_); rintro e w' ⟨rfl, rfl⟩)
                    go_roundw
                    case rel => exact ⟨k + 1, by omega, by go_num, by rw [HT1.out]; rfl, by rw [HT2.out]; rfl, HOK.out, HBK.out⟩
                    case measure => simp [intOf]; omega
            · have hkn : k = n := by omega
              subst hkn
              have hlk : l.take k = l := List.take_of_length_le (by rw [HL.out]; exact Nat.le_refl _)
              rw [hlk]
              obtain ⟨b1, hbb1⟩ : ∃ b1, l.any (hasV v) = b1 := ⟨_, rfl⟩
              obtain ⟨b2, hbb2⟩ : ∃ b2, l.any (spilV v) = b2 := ⟨_, rfl⟩
              rw [hbb1] at HKS ⊢
              rw [hbb2] at HKS ⊢
              have hln := keptTo_len l q
              have HIN := hide (show InI v by unfold InI; omega)
              have HQ2 := hide (show v + 1 = ((q + 1 : Nat) : Int) + 1 by have := HVQ.out; omega)
              have hvq : (q : Int) + 1 = v := HVQ.out
              clear hlk hbb1 hbb2 sl
              cases b1 <;> cases b2
              case true.false =>
                have HK2 := hide (show keptTo l (q + 1) = keptTo l q ++ [v] by rw [HKS.out]; rfl)
                go_wp2_with (at_builtin; refine wpList_push (α := Int) wr [.int .i64 v] 3 rfl (.tmp 65) (.tmp 67) 22 rfl W1.heap.size 3 i0 _ 8 Tryz.underlying22 HI0.out HZ.out HZ1.out HZ2.out rfl (by decide) (fun _ => False) (fun _ => False) u3 _ v rfl HOK.out _ rfl rfl ⟨rfl, HIN.out⟩ (fun _ h => h) (fun _ _ h => h) (fun _ h => h.elim) (by omega) (by omega) hwk ?_; intro v' w1 hown' hg _; have HO' := hide hown'; have HG := hide hg; clear hown' hg)
                first
                  | (go_roundw; case rel => exact ⟨q + 1, by omega, by rw [← HQ2.out], by rw [HK2.out]; exact HO'.out, (HBK.out.alloc (by omega) _).grown HG.out (by simp; omega) fun r e => (hoB r e).1⟩; case measure => simp [intOf]; omega)
                  | exact ⟨⟨q + 1, by omega, by rw [← HQ2.out], by rw [HK2.out]; exact HO'.out, (HBK.out.alloc (by omega) _).grown HG.out (by simp; omega) fun r e => (hoB r e).1⟩, by simp [intOf]; omega⟩
              all_goals
                have HK2 := hide (show keptTo l (q + 1) = keptTo l q by rw [HKS.out]; simp)
                go_wp2_with fail
                first
                  | (go_roundw; case rel => exact ⟨q + 1, by omega, by rw [← HQ2.out], by rw [HK2.out]; exact HOK.out, HBK.out⟩; case measure => simp [intOf]; omega)
                  | exact ⟨⟨q + 1, by omega, by rw [← HQ2.out], by rw [HK2.out]; exact HOK.out, HBK.out⟩, by simp [intOf]; omega⟩
        · have hq2 : q = 200 := by omega
          subst hq2
          go_wp2_with fail
          go_ret
          rw [HKB.out]
          exact ⟨_, rfl, HOQ.out.lowB hw1, HB1.out.trans (HBQ.out.mono hw1)⟩
set_option maxRecDepth 100000 in
set_option maxHeartbeats 8000000 in
theorem sameIntRows_any (w : World) (A A' : Option Addr) (n c c' : Nat) (hs hs' : List Hdr) (f : Nat → List Int) (h : Sl w (fun _ => True) A n c hs) (h' : Sl w (fun _ => True) A' n c' hs')
    (hr : ∀ k x, hs[k]? = some x → Sl w (fun _ => True) x.a x.n x.c (f k)) (hr' : ∀ k x, hs'[k]? = some x → Sl w (fun _ => True) x.a x.n x.c (f k)) :
    Calls Tryz.prog 24 #[.slice A n c, .slice A' n c'] w (RetX (.bool true) w) := by
  have hn := h.nle
  have HS := hide h; have HS' := hide h'; have HR := hide hr; have HR' := hide hr'
  clear h h' hr hr'
  go_enter Tryz.func24, Tryz.ntmps24
  go_wp2
  go_loopw [5] (fun i wr => ∃ k : Nat, k ≤ n ∧ i = .int .i64 k ∧ ∃ u, wr = w.ext u) (fun i _ => n - (intOf i).toNat)
  case atStart => exact ⟨0, Nat.zero_le _, rfl, ext_refl _⟩
  case round =>
    obtain ⟨k, hk, rfl, hu⟩ := hrel
    have sl : Sl wr (fun _ => True) A n c hs := by obtain ⟨u, rfl⟩ := hu; exact HS.out.ext u
    have sl' : Sl wr (fun _ => True) A' n c' hs' := by obtain ⟨u, rfl⟩ := hu; exact HS'.out.ext u
    have HU := hide hu
    by_cases hlt : k < n
    · obtain ⟨b, off, x, rfl, hb, _, hx, d1⟩ := at_hdr sl hlt
      obtain ⟨b', off', x', rfl, hb', _, hx', d2⟩ := at_hdr sl' hlt
      have s1 : Sl wr (fun _ => True) x.a x.n x.c (f k) := by obtain ⟨u, rfl⟩ := hu; exact (HR.out k x hx).ext u
      have s2 : Sl wr (fun _ => True) x'.a x'.n x'.c (f k) := by obtain ⟨u, rfl⟩ := hu; exact (HR'.out k x' hx').ext u
      have hxn : x'.n = x.n := by rw [← s1.len, ← s2.len]
      rw [hxn] at s2 d2
      have C := hide (fun u : Ext => sameInts_any (wr.ext u) _ _ x.a x'.a x.n x.c x'.c (f k) (s1.ext u) (s2.ext u))
      have hki : (k : Int) < n := by omega
      clear hu hx hx' sl sl' s1 s2 hxn
      go_wp2_with fail
      refine wp_region_ext (by kernel_rfl) (by kernel_rfl) ?_
      repeat (any_goals (first | go_big_quiet_step (((go_at_call 13; with_reducible exact quiet_retx (C.out _)))) | quiet_step (((go_at_call 13; with_reducible exact quiet_retx (C.out _))))))
      refine wpQuiet_nil ?_
      rintro _ ⟨uq, rfl⟩
      go_wp2_with fail
      go_roundw
      case rel => exact ⟨k + 1, by omega, by go_num, by obtain ⟨u, hu⟩ := HU.out; rw [hu]; exact ext_ext _ _ _⟩
      case measure => simp [intOf]; omega
    · clear sl sl' hu
      go_wp2_with fail
      go_ret
      exact RetX.b rfl (by obtain ⟨u, hu⟩ := HU.out; rw [hu]; exact Below.of_ext w u (Nat.le_refl _))
end Go.Proofs.YthmglmmafgdmhaaGreat
set_option linter.unusedSimpArgs false
set_option linter.unusedVariables false
namespace Go.Proofs.YthmglmmafgdmhaaGreat
open Go.RowKit Go.Maps

theorem OwnL.hdrs {w : World} {B : Nat} {T : TypeId} {S : Nat → Prop} {v : Value} {hs : List Hdr} (h : OwnL w B T S v hs) : OwnL w B T (fun _ => False) v hs := by
  obtain ⟨vals, h1, h2, _⟩ := h
  refine ⟨vals, h1, ?_, fun _ _ h => h⟩
  rw [RepL.hdrs_eq h2]
  exact RepL.hdrs _ _ _
theorem DRows.app {w2 w w1 : World} {B : Nat} {v v' : Value} {hs hs' : List Hdr} {xss xss' : List (List Int)} (D : DRows w2 B v hs xss) (hb : Below w2.heap.size w2 w) (hl' : hs'.length = xss'.length) (hr : RowsO w w2.heap.size hs' (fun k => (xss'[k]?).getD [])) (hB : B ≤ w2.heap.size)
    (hg : w.grownBy w1 v.ownBlock) (ho : OwnL w1 B 22 (fun _ => False) v' (hs ++ hs')) : DRows w1 B v' (hs ++ hs') (xss ++ xss') := by
  have D1 := D.belowAll hb
  have hkeep : ∀ g, g < w.heap.size → (∃ cur, w.heap[g]? = some (.cells cur 3 (0, 0))) → w1.heap[g]? = w.heap[g]? := fun g hl ⟨cur, hc⟩ => by
    refine hg.block g hl fun e => ?_
    obtain ⟨cur', hc'⟩ := D1.own.cellsB e.symm
    rw [hc] at hc'
    injection hc' with hc'
    injection hc' with _ hc'
    exact absurd hc' (by decide)
  have hs1 : w.heap.size ≤ w1.heap.size := hg.size
  have hrow : ∀ k x, (hs ++ hs')[k]? = some x → (k < hs.length ∧ hs[k]? = some x) ∨ (hs.length ≤ k ∧ hs'[k - hs.length]? = some x) := fun k x hk => by
    by_cases hl : k < hs.length
    · rw [List.getElem?_append_left hl] at hk; exact .inl ⟨hl, hk⟩
    · rw [List.getElem?_append_right (by omega)] at hk; exact .inr ⟨by omega, hk⟩
  refine ⟨by rw [List.length_append, List.length_append, D.len, hl'], ho, ⟨fun k x hk => ?_, fun j k x y g hj hk hne hx hy => ?_⟩⟩
  · show OwnL _ _ _ _ _ (((xss ++ xss')[k]?).getD [])
    rcases hrow k x hk with ⟨hl, hk'⟩ | ⟨hl, hk'⟩
    · have := D1.rows.own k x hk'
      rw [List.getElem?_append_left (by have := D.len; omega)]
      exact this.keep hs1 (fun _ hf => hf.elim) fun g hg' => hkeep g (this.below_ g hg').2 (this.cellsB hg')
    · have := hr.own _ x hk'
      rw [List.getElem?_append_right (by have := D.len; omega), ← D.len]
      exact (this.lowB hB).keep hs1 (fun _ hf => hf.elim) fun g hg' => hkeep g (this.below_ g hg').2 (this.cellsB hg')
  · rcases hrow j x hj with ⟨_, hj'⟩ | ⟨hj1, hj'⟩
    · rcases hrow k y hk with ⟨_, hk'⟩ | ⟨_, hk'⟩
      · exact D.rows.ne j k x y g hj' hk' hne hx hy
      · have := (D.rows.lt hj' hx).2; have := (hr.lt hk' hy).1; omega
    · rcases hrow k y hk with ⟨_, hk'⟩ | ⟨hk1, hk'⟩
      · have := (D.rows.lt hk' hy).2; have := (hr.lt hj' hx).1; omega
      · exact hr.ne _ _ x y g hj' hk' (by omega) hx hy
/-- Rows that lie in memory. -/
def RowsJ (xss : List (List Int)) : Post := fun v w => ∃ A c hs, v = .slice A xss.length c ∧ Sl w (fun _ => True) A xss.length c hs ∧ ∀ (k : Nat) (x : Hdr), hs[k]? = some x → Sl w (fun _ => True) x.a x.n x.c ((xss[k]?).getD [])
theorem RowsJ.stable_ {F : World → Prop} {xss : List (List Int)} {mem : Bool} (hm : mem = true) : stable F mem (RowsJ xss) :=
  stable_mem hm fun _ w u ⟨A, c, hs, hv, h1, h2⟩ => ⟨A, c, hs, hv, h1.ext u, fun k x hk => (h2 k x hk).ext u⟩
theorem rowsJ_of {xss : List (List Int)} {w w' : World} {e : Ending} (h : RetRows xss w e w') : ∃ v, e = .returned v ∧ RowsJ xss v w' ∧ ∃ u : Ext, w' = w.ext u := by
  obtain ⟨v, hs, rfl, hl, ho, hr, hb⟩ := h
  obtain ⟨A, c, rfl⟩ := ho.form
  refine ⟨_, rfl, ⟨A, c, hs, by rw [hl], by rw [← hl]; exact ho.sl fun _ _ _ => trivial, fun k x hk => (hr.own k x hk).sl fun _ _ _ => trivial⟩, hb.to_ext⟩
theorem callsToX {f : Nat} {args : Array Value} {w : World} {v : Value} (h : Calls Tryz.prog f args w (fun e w' => e = .returned v ∧ Below w.heap.size w w')) : Calls Tryz.prog f args w (RetX v w) :=
  h.mono fun _ _ ⟨h1, h2⟩ => ⟨h1, h2.to_ext⟩
/-- Two lists of the call's own in a new row. -/
theorem DRows.two {W : World} {B : Nat} {a b : Hdr} {xa xb : List Int} (hB : B ≤ W.heap.size) (ha : OwnL W B 3 (fun _ => False) a.v xa) (hb : OwnL W B 3 (fun _ => False) b.v xb)
    (nab : ∀ g, a.v.ownBlock = some g → b.v.ownBlock ≠ some g) : DRows (W.alloc (.cells #[a.v, b.v] 22)) B (.slice (some ⟨W.heap.size, 0, none⟩) 2 2) [a, b] [xa, xb] := by
  refine ⟨rfl, ?_, ⟨?_, ?_⟩⟩
  · exact OwnL.of_block (xs := [a, b]) (n := 2) (c := 2) (S := fun _ => False) (cur := #[a.v, b.v]) rfl (Nat.le_refl _) (by unfold maxLen; omega) hB (fun h => h) (heap_alloc_new W _) rfl (RepL.hdrs _ _ [a, b])
  · intro k h hk
    match k, hk with
    | 0, hk => injection hk with hk; subst hk; exact ha.alloc _
    | 1, hk => injection hk with hk; subst hk; exact hb.alloc _
    | k + 2, hk => simp at hk
  · intro j k x y g hj hk hne hx hy
    match j, hj, k, hk with
    | 0, hj, 0, hk => exact hne rfl
    | 1, hj, 1, hk => exact hne rfl
    | 0, hj, 1, hk => injection hj with hj; injection hk with hk; subst hj hk; exact nab g hx hy
    | 1, hj, 0, hk => injection hj with hj; injection hk with hk; subst hj hk; exact nab g hy hx
    | j + 2, hj, _, _ => simp at hj
    | _, _, k + 2, hk => simp at hk
/-- All rows that have been told. -/
def allR (l : List Brief) (k : Nat) : List (List Int) := [keptB l, keptB l] ++ ((l.take k).map apartB).flatten
theorem allR_succ {l : List Brief} {k : Nat} {b : Brief} (h : l[k]? = some b) : allR l (k + 1) = allR l k ++ apartB b := by unfold allR; rw [take_at h]; simp
theorem apartB_small (b : Brief) : (apartB b).length ≤ b.vars.length ∧ ∀ xs ∈ apartB b, xs.length ≤ 200 := by
  unfold apartB
  cases hr : rightB b with
  | false => simp
  | true =>
    have R := rightB_of hr
    simp only [if_true]
    rw [List.length_map]
    refine ⟨?_, fun xs hx => ?_⟩
    · have h1 := cols_few R
      have h2 := List.length_filter_le (fun p : Int × Int => decide (0 ≤ p.2)) (vcB b)
      rw [vc_len R] at h2
      unfold colsL at h1
      omega
    · obtain ⟨c, _, rfl⟩ := List.mem_map.1 hx
      unfold rowC
      rw [List.length_map]
      have h2 := List.length_filter_le (fun p : Int × Int => p.2 == c) (vcB b)
      have := rising_few R.rise
      rw [vc_len R] at h2
      omega
theorem allR_small (l : List Brief) (k : Nat) (ht : totL l ≤ 400) (hk : (keptB l).length ≤ 200) : (allR l k).length ≤ 402 ∧ ∀ xs ∈ allR l k, xs.length ≤ 200 := by
  have key : ∀ m : List Brief, ((((m.map apartB).flatten).length : Nat) : Int) ≤ totL m ∧ ∀ xs ∈ (m.map apartB).flatten, xs.length ≤ 200 := by
    intro m
    induction m with
    | nil => exact ⟨by simp [totL], by simp⟩
    | cons b m ih =>
      rw [List.map_cons, List.flatten_cons, List.length_append]
      have h1 := apartB_small b
      refine ⟨?_, fun xs hx => ?_⟩
      · unfold totL; have := ih.1; omega
      · rcases List.mem_append.1 hx with hx | hx
        · exact h1.2 xs hx
        · exact ih.2 xs hx
  have htk : ∀ (m : List Brief) (k : Nat), totL (m.take k) ≤ totL m := by
    intro m
    induction m with
    | nil => intro k; simp [totL]
    | cons b m ih =>
      intro k
      cases k with
      | zero => rw [List.take_zero]; exact totL_pos _
      | succ k => rw [List.take_succ_cons]; unfold totL; have := ih k; omega
  have h := key (l.take k)
  have h2 := htk l k
  unfold allR
  rw [List.length_append]
  refine ⟨by have := h.1; simp only [List.length_cons, List.length_nil]; omega, fun xs hx => ?_⟩
  rcases List.mem_append.1 hx with hx | hx
  · simp at hx; subst hx; exact hk
  · exact h.2 xs hx
theorem keptB_len (l : List Brief) : (keptB l).length ≤ 200 := by
  unfold keptB
  split
  · exact Nat.zero_le _
  · have := List.length_filter_le (fun v : Int => l.any (hasV v) && !l.any (spilV v)) ((List.range 200).map fun i : Nat => (i : Int) + 1)
    simpa using this
set_option maxRecDepth 100000 in
set_option maxHeartbeats 16000000 in
theorem briefTells_any (w : World) (S : Nat → Prop) (A3 : Option Addr) (n3 c3 : Nat) (l : List Brief) (h3 : Sl w S A3 n3 c3 l)
    (hz3 : n3 ≤ 1048576) (hz : ∀ b ∈ l, b.vars.length ≤ 1048576 ∧ b.colors.length ≤ 1048576 ∧ b.edge.length ≤ 1048576) :
    Calls Tryz.prog 4 #[.slice A3 n3 c3] w (fun e w' => e = .returned (.bool true) ∧ Below w.heap.size w w') := by
  have L3 := h3.len
  have K3 := hide (h3.more (S' := fun _ => True) fun _ _ _ => trivial)
  obtain ⟨sz, hsz⟩ : ∃ sz, sizeL (l.length : Nat) l = sz := ⟨_, rfl⟩
  have HSZ := hide (show Calls Tryz.prog 6 #[.slice A3 n3 c3] w (RetX (.int .i64 sz) w) from hsz ▸ size23_any w _ A3 n3 c3 l K3.out hz3 hz)
  clear h3
  go_enter Tryz.func4, Tryz.ntmps4
  by_cases hbig : 400 < sz
  · go_wp2_with (first
      | (go_at_call 6; (with_reducible refine HSZ.out.mono ?_); rintro e _ ⟨rfl, ux, rfl⟩)
      | (go_at_call 7; refine (awake23_any _).mono ?_; rintro e _ ⟨rfl, ua, rfl⟩))
    go_ret
    exact ⟨rfl, (Below.of_ext w _ (Nat.le_refl _)).ext (by rw [size_ext]; omega) _⟩
  · have htot := sizeL_small l _ (by rw [hsz]; omega)
    have htp := totL_pos l
    have htot' : (n3 : Int) + totL l ≤ 400 := by omega
    have C3 := hide (fun u : Ext => lent23_any (w.ext u) _ A3 n3 c3 l (K3.out.ext u) hz3 hz)
    have C4 := hide (fun u u' : Ext => refs23_any ((w.ext u).ext u') _ A3 n3 c3 l ((K3.out.ext u).ext u') hz3)
    go_wp2_with (first
      | (go_at_call 6; (with_reducible refine HSZ.out.mono ?_); rintro e _ ⟨rfl, ux, rfl⟩)
      | (go_at_call 9; (with_reducible refine (C3.out _).mono ?_); rintro e _ ⟨B3, m3, d3, So, rfl, ho, hSo, u3, rfl⟩; have HO3 := hide ho; clear ho hSo C3)
      | (go_at_call 12; (with_reducible refine (C4.out _ _).mono ?_); rintro e _ ⟨A6, n6, c6, rfl, hs6, hn6, u4, rfl⟩; have HS6 := hide hs6; have HN6 := hide hn6; clear hs6 hn6 C4; refine Hd.out ?_))
    obtain ⟨W3, hW3⟩ : ∃ W3, ((w.ext ux).ext u3).ext u4 = W3 := ⟨_, rfl⟩
    have HB3 := hide (show Below w.heap.size w W3 by rw [← hW3]; exact ((Below.of_ext w ux (Nat.le_refl _)).ext (by rw [size_ext]; omega) u3).ext (by simp only [size_ext]; omega) u4)
    have hm3 : m3 = n3 := by
      obtain ⟨_, _, e⟩ := HO3.out.form
      injection e with _ e _
      rw [e, List.length_map, L3]
    have hn63 : n6 = n3 := by rw [HN6.out, L3]
    have R3 := hide (show Sl W3 (fun _ => True) B3 n3 d3 (lbs l) by rw [← hW3, ← hm3]; exact (HO3.out.sl fun _ _ _ => trivial).ext u4)
    have R6 := hide (show Sl W3 (fun _ => True) A6 n3 c6 l by rw [← hW3, ← hn63]; exact HS6.out)
    have Q3 := hide (K3.out.belowAll HB3.out)
    subst hm3
    subst hn63
    rw [hW3]
    have hw3 := HB3.out.size
    clear hW3 HO3 HSZ K3 HS6 HN6
    have HKE := hide (fun (W : World) (hb : Below W3.heap.size W3 W) => kept_any W (fun _ => True) B3 n6 d3 l ((lbs_forget R3.out).belowAll hb) hz3)
    have HDK := hide (fun (W : World) (hb : Below W3.heap.size W3 W) => dkept_any W (fun _ => True) A6 n6 c6 l (R6.out.belowAll hb) hz3)
    have hkl := keptB_len l
    have HAS := hide (fun k => allR_small l k (by omega) hkl)
    obtain ⟨i1, hj, hy, hy1, hy2⟩ := info_parts info_sl
    have HJ0 := hide hj; have HY := hide hy; have HY1 := hide hy1; have HY2 := hide hy2
    clear hj hy hy1 hy2
    obtain ⟨kl, hkl'⟩ : ∃ kl, keptB l = kl := ⟨_, rfl⟩
    have HKL := hide hkl'
    rw [hkl'] at HKE HDK hkl
    clear hkl'
    refine hide ?_
    go_wp2_with (first
      | (go_at_call 17; (with_reducible refine (HKE.out W3 (Below.refl _ _)).mono ?_); rintro e W4 ⟨v, rfl, ho, hb⟩; obtain ⟨A4, c4, rfl⟩ := ho.form; obtain ⟨n4, hn4⟩ : ∃ n4, kl.length = n4 := ⟨_, rfl⟩; rw [hn4] at ho hkl ⊢; have HN4 := hide hn4; have HOA := hide ho; have HB4 := hide hb; clear ho hb hn4)
      | (go_at_call 17; (with_reducible refine (HKE.out W4 HB4.out).mono ?_); rintro e W5 ⟨v, rfl, ho, hb⟩; obtain ⟨A5, c5, rfl⟩ := ho.form; rw [HN4.out] at ho ⊢; have HOB := hide ho; have HB45 := hide hb; clear ho hb; refine Hd.out ?_))
    have hw4 := HB4.out.size
    have HB5 := hide (HB4.out.trans (HB45.out.mono hw4))
    have hw5 := HB5.out.size
    have hw45 := HB45.out.size
    refine hide ?_
    go_wp2_with (first
      | (go_at_call 18; (with_reducible refine (HDK.out W5 HB5.out).mono ?_); rintro e W6 ⟨v, rfl, ho, hb⟩; obtain ⟨A7, c7, rfl⟩ := ho.form; rw [HN4.out] at ho ⊢; have HOC := hide ho; have HB56 := hide hb; clear ho hb)
      | (go_at_call 13; refine (sameInts_any W6 (fun _ => True) (fun _ => True) _ _ _ _ _ kl (((HOA.out.sl fun _ _ _ => trivial).belowAll HB45.out).belowAll HB56.out) (HOC.out.sl fun _ _ _ => trivial)).mono ?_; rintro e _ ⟨rfl, u7, rfl⟩; refine Hd.out ?_))
    obtain ⟨W7, hW7⟩ : ∃ W7, W6.ext u7 = W7 := ⟨_, rfl⟩
    have hB67 : Below W5.heap.size W5 W7 := by rw [← hW7]; exact HB56.out.ext HB56.out.size u7
    have HB7 := hide (HB5.out.trans (hB67.mono hw5))
    have hw7 := HB7.out.size
    have hw57 := hB67.size
    have hOa : OwnL W7 W3.heap.size 3 (fun _ => False) (.slice A4 n4 c4) kl := HOA.out.keep (by omega) (fun _ hf => hf.elim) fun g hg => (hB67.block g (by have := (HOA.out.below_ g hg).2; omega)).trans (HB45.out.block g (HOA.out.below_ g hg).2)
    have hOb : OwnL W7 W3.heap.size 3 (fun _ => False) (.slice A5 n4 c5) kl := (HOB.out.keep (by omega) (fun _ hf => hf.elim) fun g hg => hB67.block g (HOB.out.below_ g hg).2).lowB hw4
    have hne : ∀ g, (Value.slice A4 n4 c4).ownBlock = some g → (Value.slice A5 n4 c5).ownBlock ≠ some g := fun g hg hc => by have := (HOA.out.below_ g hg).2; have := (HOB.out.below_ g hc).1; omega
    have HDR := hide (show DRows (W7.alloc (.cells #[.slice A4 n4 c4, .slice A5 n4 c5] 22)) W3.heap.size (.slice (some ⟨W7.heap.size, 0, none⟩) 2 2) [⟨A4, n4, c4⟩, ⟨A5, n4, c5⟩] (allR l 0) from by
      have h := DRows.two (W := W7) (B := W3.heap.size) (a := ⟨A4, n4, c4⟩) (b := ⟨A5, n4, c5⟩) hw7 hOa hOb hne
      have e : allR l 0 = [kl, kl] := by unfold allR; rw [HKL.out]; rfl
      rw [e]; exact h)
    have HB8 := hide (show Below W3.heap.size W3 (W7.alloc (.cells #[.slice A4 n4 c4, .slice A5 n4 c5] 22)) from HB7.out.alloc hw7 _)
    rw [hW7]
    clear hW7 hOa hOb hne hB67 HOA HOB HOC HB4 HB45 HB5 HB56 HB7 hw4 hw5 hw45 hw57 HKE HDK
    refine hide ?_
    go_wp2_with fail
    go_loopw [7, 8] (fun a i wr => ∃ (k : Nat) (hs : List Hdr), k ≤ n6 ∧ i = .int .i64 k ∧ DRows wr W3.heap.size a hs (allR l k) ∧ Below W3.heap.size W3 wr) (fun _ i _ => n6 - (intOf i).toNat)
    case atStart => exact ⟨0, _, Nat.zero_le _, rfl, HDR.out, HB8.out⟩
    clear HDR HB8 hw7 HN4
    case round =>
      obtain ⟨k, hs, hk, rfl, hdr, hbq⟩ := hrel
      have HDR := hide hdr; have HBQ := hide hbq
      have hwq := hbq.size
      have sx := R3.out.belowAll hbq
      have sr := R6.out.belowAll hbq
      clear hdr hbq
      by_cases hlt : k < n6
      · obtain ⟨b, off, bx, A1, n1, c1, A2, n2, c2, A3', n3, c3', rfl, hb, hx, s1, s2, s3, k0, k1, k2⟩ := at_Brief sr hlt
        obtain ⟨b', off', A1x, c1x, A2x, c2x, A3x, c3x, rfl, hb', t1, t2, t3, j0, j1, j2⟩ := at_LB sx hlt hx
        have l1 := s1.len; have l2 := s2.len; have l3 := s3.len
        subst l1 l2 l3
        have t1 := t1.forget rfl; have t2 := t2.forget rfl; have t3 := t3.forget rfl
        have HT := hide (allR_succ hx)
        have HZV := hide (hz bx (List.mem_of_getElem? hx)).1
        have hki : (k : Int) < n6 := by omega
        have HA := hide (apart23_any wr _ bx _ _ _ _ _ _ _ _ _ t1 t2 t3)
        clear hx sx sr
        go_wp2_with (go_at_call 19; (with_reducible refine HA.out.mono ?_); rintro e W ⟨v, hs', rfl, hl', ho', hr', hb⟩; obtain ⟨A9, c9, rfl⟩ := ho'.form; obtain ⟨n9, hn9⟩ : ∃ n9, hs'.length = n9 := ⟨_, rfl⟩; rw [hn9] at ho' hl' ⊢; have HN9 := hide hn9; have HO9 := hide ho'; have HL9 := hide hl'; have HR9 := hide hr'; have HB9 := hide hb; clear hn9 ho' hl' hr' hb; refine Hd.out ?_)
        have hw9 := HB9.out.size
        have HBW := hide (HBQ.out.trans (HB9.out.mono hwq))
        have HS1 := hide (s1.belowAll HB9.out); have HS2 := hide (s2.belowAll HB9.out); have HS3 := hide (s3.belowAll HB9.out)
        have HT1 := hide (t1.belowAll HB9.out); have HT2 := hide (t2.belowAll HB9.out); have HT3 := hide (t3.belowAll HB9.out)
        have kk0 := (HB9.out.cell (p := ⟨b, _, none⟩) hb).trans k0
        have kk1 := (HB9.out.cell (p := ⟨b, _, none⟩) hb).trans k1
        have kk2 := (HB9.out.cell (p := ⟨b, _, none⟩) hb).trans k2
        have jj0 := (HB9.out.cell (p := ⟨b', _, none⟩) hb').trans j0
        have jj1 := (HB9.out.cell (p := ⟨b', _, none⟩) hb').trans j1
        have jj2 := (HB9.out.cell (p := ⟨b', _, none⟩) hb').trans j2
        have hbW : b < W.heap.size := by omega
        have hbW' : b' < W.heap.size := by omega
        clear s1 s2 s3 t1 t2 t3 k0 k1 k2 j0 j1 j2 HA
        obtain ⟨rb, hrb⟩ : ∃ rb, rightB bx = rb := ⟨_, rfl⟩
        have C1 := hide (fun u : Ext => hrb ▸ rightB_any (W.ext u) _ bx _ _ _ _ _ _ _ _ _ (HT1.out.ext u) (HT2.out.ext u) (HT3.out.ext u))
        have C2 := hide (fun u : Ext => hrb ▸ dright_any (W.ext u) _ bx _ _ _ _ _ _ _ _ _ (HS1.out.ext u) (HS2.out.ext u) (HS3.out.ext u))
        have C3 := hide (fun u : Ext => show Calls Tryz.prog 22 _ (W.ext u) (RetX (.int .i64 n9) (W.ext u)) from HL9.out ▸ callsToX (used_any (W.ext u) _ bx _ _ _ _ _ _ _ _ _ (HT1.out.ext u) (HT2.out.ext u) (HT3.out.ext u)))
        have C4 := hide (fun u : Ext => show Calls Tryz.prog 23 _ (W.ext u) (RetX (.int .i64 n9) (W.ext u)) from HL9.out ▸ callsToX (dused_any (W.ext u) _ bx _ _ _ _ _ _ _ _ _ (HS1.out.ext u) (HS2.out.ext u) (HS3.out.ext u)))
        have C5 := hide (fun u : Ext => dapart_any (W.ext u) _ bx _ _ _ _ _ _ _ _ _ (HS1.out.ext u) (HS2.out.ext u) (HS3.out.ext u))
        have C6 := hide (fun (u : Ext) (A : Option Addr) (c : Nat) (hs'' : List Hdr) (h : Sl (W.ext u) (fun _ => True) A n9 c hs'') (hr : ∀ (k : Nat) (x : Hdr), hs''[k]? = some x → Sl (W.ext u) (fun _ => True) x.a x.n x.c (((apartB bx)[k]?).getD [])) =>
          sameIntRows_any (W.ext u) A9 A n9 c9 c hs' hs'' (fun k => ((apartB bx)[k]?).getD []) ((HO9.out.sl fun _ _ _ => trivial).ext u) h (fun k x hk => ((HR9.out.own k x hk).sl fun _ _ _ => trivial).ext u) hr)
        have hbb : (rb == rb) = true := by simp
        have hnn : ((n9 : Int) == n9) = true := by simp
        clear hrb
        refine hide ?_
        go_wp2_with fail
        refine wp_region_flow_ext [] [30] (by kernel_rfl) rfl (by kernel_rfl) ?_
        repeat (refine flow_known (by kernel_rfl) (fun K hK => ?_); go_simp; (first | (refine hK _ ?_; clear hK K) | (apply Exists.intro; refine ⟨fun _ => ?_, hK _ ?_⟩; (first | (go_at_call 20; exact C1.out _) | (go_at_call 21; exact C2.out _) | (go_at_call 22; exact C3.out _) | (go_at_call 23; exact C4.out _)); clear hK K)))
        refine flow_keep0 (RowsJ (apartB bx)) (by kernel_rfl) (RowsJ.stable_ rfl) ?_ ?_
        · intro u
          go_simp
          refine (C5.out u).mono ?_
          intro e w' h
          obtain ⟨v, he, hj, hx⟩ := rowsJ_of h
          exact ⟨v, he, hj, onW_ext ⟨_, rfl⟩ hx⟩
        refine flow_out [true] (.bool true) (by kernel_rfl) ?_ ?_
        · intro u
          try simp only [List.nil_append, List.cons_append, useH_f, useH_t, useH_nil]
          rintro _ ⟨A, c, hs'', rfl, h1, h2⟩
          go_simp
          rw [← HL9.out] at h1 ⊢
          exact C6.out u A c hs'' h1 h2
        repeat (refine flow_known (by kernel_rfl) (fun K hK => ?_); go_simp; (first | (refine hK _ ?_; clear hK K) | (apply Exists.intro; refine ⟨fun _ => ?_, hK _ ?_⟩; (fail); clear hK K)))
        refine flow_done [true] (by kernel_rfl) ?_
        intro u4
        simp only [List.nil_append, List.cons_append, endH_f, endH_t, endH_nil]
        rintro v1 _
        go_simp
        obtain ⟨W2, hW2⟩ : ∃ X, W.ext u4 = X := ⟨_, rfl⟩
        have hb2 : Below W.heap.size W W2 := by rw [← hW2]; exact Below.of_ext W u4 (Nat.le_refl _)
        have HB2 := hide (HB9.out.trans (hb2.mono hw9))
        have HBW2 := hide (HBW.out.trans (hb2.mono HBW.out.size))
        have HD2 := hide (HDR.out.belowAll HB2.out)
        have HO2 := hide (HO9.out.keep hb2.size (fun _ hf => hf.elim) fun g hg => hb2.block g (HO9.out.below_ g hg).2)
        have HR2 := hide (HR9.out.belowAll hb2)
        rw [hW2]
        clear hW2 hb2 C1 C2 C3 C4 C5 C6 kk0 kk1 kk2 jj0 jj1 jj2 hbW hbW' HS1 HS2 HS3 HT1 HT2 HT3 hbb hnn
        have hw2 := HB2.out.size
        have hn9 : n9 ≤ 1048576 := by have h1 := (apartB_small bx).1; have h2 := HL9.out; have h3 := HZV.out; omega
        have hhl : hs.length ≤ 402 := by have h1 := HD2.out.len; have h2 := (HAS.out k).1; omega
        have hoR := HD2.out.own.below_
        have hlen9 : hs'.length = n9 := HN9.out
        have HSL := hide (HO2.out.slo (S' := fun g => (Value.slice A9 n9 c9).ownBlock = some g) fun g hg h => h.elim (fun h => h.elim) id)
        clear hlen9
        go_wp2_with (at_builtin; refine wpList_push_sl (α := Hdr) W2 rfl (.tmp 75) (.tmp 76) 36 rfl W3.heap.size 22 i1 _ 24 Tryz.underlying36 HJ0.out HY.out HY1.out HY2.out rfl (by decide) (fun _ => False) (fun g => (Value.slice A9 n9 c9).ownBlock = some g) (fun g => (Value.slice A9 n9 c9).ownBlock = some g) u7 hs hs' rfl HD2.out.own A9 n9 c9 rfl HSL.out (fun _ h => h.elim) (fun _ _ h => h) (fun g h hc => by have h1 := (HD2.out.own.below_ g h).2; have h2 := (HO2.out.below_ g hc).1; have h3 := (HDR.out.own.below_ g h).2; omega) (fun b hb => (HO2.out.below_ b hb).2) (by omega) (by omega) (by omega) ?_; intro v' w1 ho1 hgr h5; have HO1 := hide ho1.hdrs; have HGR := hide hgr; clear ho1 hgr h5)
        have HT2 := hide (show DRows w1 W3.heap.size v' (hs ++ hs') (allR l (k + 1)) by rw [HT.out]; exact DRows.app HDR.out HB2.out (by rw [HN9.out, HL9.out]) HR2.out (by omega) HGR.out HO1.out)
        exact ⟨⟨k + 1, hs ++ hs', by omega, by go_num, HT2.out, HBW2.out.grown HGR.out HBW2.out.size fun r e => (hoR r e).1⟩, by simp [intOf]; omega⟩
      · have hkn : k = n6 := by omega
        subst hkn
        obtain ⟨A7, c7, rfl⟩ := HDR.out.own.form
        have hlen := HDR.out.len
        have hAS := (HAS.out k).1
        have HSM := hide (HAS.out k).2
        obtain ⟨nh, hnh⟩ : ∃ nh, hs.length = nh := ⟨_, rfl⟩
        rw [hnh] at HDR ⊢
        have HD2 := hide (show DRows wr W3.heap.size (.slice A7 nh c7) hs (allR l k) from HDR.out)
        have hnh2 : nh ≤ 1000 := by omega
        have HAP := hide (apartInts_any wr W3.heap.size (fun g => (Value.slice A7 nh c7).ownBlock = some g) A7 nh c7 hs (fun j => ((allR l k)[j]?).getD [])
          ⟨HD2.out.own.slo (fun g hg h => h.elim (fun h => h.elim) id), HD2.out.rows, fun j x g hj hx hS => by
              obtain ⟨cur, hc⟩ := (HD2.out.rows.own j x hj).cellsB hx
              obtain ⟨cur', hc'⟩ := HD2.out.own.cellsB hS
              rw [hc] at hc'
              injection hc' with hc'
              injection hc' with _ hc'
              exact absurd hc' (by decide), Below.refl _ _, fun b hb => (HD2.out.own.below_ b hb).2, fun _ _ => rfl⟩ hwq hnh2 (fun j x hj => by
              obtain ⟨_, _, e⟩ := (HD2.out.rows.own j x hj).form
              injection e with _ e _
              rw [e]
              cases hq : (allR l k)[j]? with
              | none => exact Nat.zero_le _
              | some ys => have := HSM.out ys (List.mem_of_getElem? hq); simp only [Option.getD_some]; omega))
        have HKB := hide (fun (W : World) (hb : Below W3.heap.size W3 W) => kept23_any W (fun _ => True) (fun _ => True) _ _ k d3 _ l (R3.out.belowAll hb) (Q3.out.belowAll hb) hz3 hz)
        clear hlen hAS hnh sx sr
        go_wp2_with (first
          | (go_at_call 14; (with_reducible refine HAP.out.mono ?_); rintro e W8 ⟨rfl, hb⟩; have HB8 := hide (show Below W3.heap.size W3 W8 from HBQ.out.trans hb); clear hb)
          | (go_at_call 16; (with_reducible refine (HKB.out _ HB8.out).mono ?_); rintro e _ ⟨rfl, u11, rfl⟩)
          | (go_at_call 7; refine (awake23_any _).mono ?_; rintro e _ ⟨rfl, u12, rfl⟩))
        go_ret
        have hw8 := HB8.out.size
        exact ⟨rfl, HB3.out.trans (((HB8.out.ext hw8 u11).ext (by rw [size_ext]; omega) u12).mono hw3)⟩
end Go.Proofs.YthmglmmafgdmhaaGreat
