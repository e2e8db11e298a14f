/- Walks: the document's: how many colors; what is kept; rows of numbers are alike. -/
import Derived.Test.YthmglmmafgdmhaaGreatTD4
import Derived.Test.YthmglmmafgdmhaaGreatAP1
set_option linter.unusedSimpArgs false
set_option linter.unusedVariables false
namespace Go.Proofs.YthmglmmafgdmhaaGreat
open Go.RowKit Go.Maps

theorem dused_any (w : World) (S : Nat → Prop) (b : Brief) (A1 A2 A3 : Option Addr) (n1 c1 n2 c2 n3 c3 : Nat) (h1 : Sl w S A1 n1 c1 b.vars) (h2 : Sl w S A2 n2 c2 b.colors) (h3 : Sl w S A3 n3 c3 b.edge) :
    Calls Tryz.prog 23 #[.agg #[.slice A1 n1 c1, .slice A2 n2 c2, .slice A3 n3 c3]] w (fun e w' => e = .returned (.int .i64 (apartB b).length) ∧ Below w.heap.size w w') := by
  obtain ⟨W0, hW0⟩ : ∃ W0, w.alloc (.cells #[.slice A1 n1 c1, .slice A2 n2 c2, .slice A3 n3 c3] 46) = W0 := ⟨_, rfl⟩
  obtain ⟨g, hg⟩ : ∃ g, w.heap.size = g := ⟨_, rfl⟩
  have hrow : W0.heap[g]? = some (.cells #[.slice A1 n1 c1, .slice A2 n2 c2, .slice A3 n3 c3] 46 (0, 0)) := by rw [← hW0, ← hg]; exact heap_alloc_new w _
  have k0 : W0.cell? ⟨g, 0, none⟩ = some (.slice A1 n1 c1) := cell_of_row W0 g _ _ _ (0, 0) hrow
  have k1 : W0.cell? ⟨g, 1, none⟩ = some (.slice A2 n2 c2) := cell_of_row W0 g _ _ _ (0, 0) hrow
  have k2 : W0.cell? ⟨g, 2, none⟩ = some (.slice A3 n3 c3) := cell_of_row W0 g _ _ _ (0, 0) hrow
  have hgl : g < W0.heap.size := by rw [← hW0, ← hg]; simp
  have HB0 := hide (show Below w.heap.size w W0 by rw [← hW0]; exact (Below.refl _ _).alloc (Nat.le_refl _) _)
  have HA := hide (dapart_any W0 S b A1 A2 A3 n1 c1 n2 c2 n3 c3 (by rw [← hW0]; exact h1.alloc _) (by rw [← hW0]; exact h2.alloc _) (by rw [← hW0]; exact h3.alloc _))
  clear h1 h2 h3 hrow
  go_enter Tryz.func23, Tryz.ntmps23
  go_wp2_with (go_at_call 25; (with_reducible refine HA.out.mono ?_); rintro e W ⟨v, hs, rfl, hl, ho, _, hb⟩; obtain ⟨A, c, rfl⟩ := ho.form; rw [hl])
  go_ret
  exact ⟨rfl, HB0.out.trans (hb.mono HB0.out.size)⟩
def keptTo (l : List Brief) (q : Nat) : List Int := ((List.range q).map fun i : Nat => (i : Int) + 1).filter fun v => l.any (hasV v) && !l.any (spilV v)
theorem keptTo_succ (l : List Brief) (q : Nat) : keptTo l (q + 1) = keptTo l q ++ (if (l.any (hasV ((q : Int) + 1)) && !l.any (spilV ((q : Int) + 1))) = true then [(q : Int) + 1] else []) := by
  unfold keptTo
  rw [List.range_succ, List.map_append, List.filter_append]
  congr 1
  by_cases h : (l.any (hasV ((q : Int) + 1)) && !l.any (spilV ((q : Int) + 1))) = true
  · rw [if_pos h]; simp only [List.map_cons, List.map_nil, List.filter_cons, h, if_true, List.filter_nil]
  · rw [if_neg h]; simp only [List.map_cons, List.map_nil, List.filter_cons, h, if_false, List.filter_nil]; simp
theorem keptTo_len (l : List Brief) (q : Nat) : (keptTo l q).length ≤ q := by
  unfold keptTo
  have := List.length_filter_le (fun v : Int => l.any (hasV v) && !l.any (spilV v)) ((List.range q).map fun i : Nat => (i : Int) + 1)
  simpa using this
set_option maxRecDepth 100000 in
set_option maxHeartbeats 8000000 in
theorem dkept_any (w : World) (S : Nat → Prop) (A : Option Addr) (n c : Nat) (l : List Brief) (h : Sl w S A n c l) (hn : n ≤ 1048576) : Calls Tryz.prog 18 #[.slice A n c] w (RetInts (keptB l) w) := by
  have HL := hide h.len
  have HS := hide h
  clear h
  go_enter Tryz.func18, Tryz.ntmps18
  go_wp2
  go_loopw [4] (fun i wr => ∃ k : Nat, k ≤ n ∧ i = .int .i64 k ∧ anyF (fun b => !rightB b) l = anyF (fun b => !rightB b) (l.drop k) ∧ ∃ u, wr = w.ext u) (fun i _ => n - (intOf i).toNat)
  case atStart => exact ⟨0, Nat.zero_le _, rfl, rfl, ext_refl _⟩
  case round =>
    obtain ⟨k, hk, rfl, hr, hu⟩ := hrel
    have sl : Sl wr S A n c l := by obtain ⟨u, rfl⟩ := hu; exact HS.out.ext u
    have HR := hide hr; have HU := hide hu
    clear hr hu
    by_cases hlt : k < n
    · obtain ⟨b, off, x, A1, n1, c1, A2, n2, c2, A3, n3, c3, rfl, hb, hx, s1, s2, s3, k0, k1, k2⟩ := at_Brief sl hlt
      have HX := hide (drop_at hx)
      obtain ⟨r, hr⟩ : ∃ r, rightB x = r := ⟨_, rfl⟩
      have HW := hide (show Calls Tryz.prog 21 #[.agg #[.slice A1 n1 c1, .slice A2 n2 c2, .slice A3 n3 c3]] wr (RetX (.bool r) wr) from hr ▸ dright_any wr S x A1 A2 A3 n1 c1 n2 c2 n3 c3 s1 s2 s3)
      have HV := hide hr
      clear hx hr s1 s2 s3 sl
      cases r
      · go_wp2_with (go_at_call 21; (with_reducible refine (HW.out).mono ?_); rintro e _ ⟨rfl, ux, rfl⟩)
        go_ret
        have ha : anyF (fun b => !rightB b) l = true := by rw [HR.out, HX.out]; simp [anyF, HV.out]
        rw [keptB_wrong ha]
        exact ⟨_, rfl, OwnL.nil_ _ _ _ _, by obtain ⟨u, hu⟩ := HU.out; rw [hu]; exact (Below.of_ext w u (Nat.le_refl _)).ext (by rw [size_ext]; omega) _⟩
      · go_wp2_with (go_at_call 21; (with_reducible refine (HW.out).mono ?_); rintro e _ ⟨rfl, ux, rfl⟩)
        go_roundw
        case rel => exact ⟨k + 1, by omega, by go_num, by rw [HR.out, HX.out]; simp [anyF, HV.out], by obtain ⟨u, hu⟩ := HU.out; rw [hu]; exact ext_ext _ _ _⟩
        case measure => simp [intOf]; omega
    · have hra : anyF (fun b => !rightB b) l = false := by rw [HR.out, drop_end HL.out hlt]; rfl
      have G := all_right hra
      have HKB := hide (show keptB l = keptTo l 200 from keptB_eq hra)
      obtain ⟨i0, hi, hz, hz1, hz2⟩ := info_parts info_int
      have HI0 := hide hi; have HZ := hide hz; have HZ1 := hide hz1; have HZ2 := hide hz2
      have HB1 := hide (show Below w.heap.size w wr by obtain ⟨u, hu⟩ := HU.out; rw [hu]; exact Below.of_ext w u (Nat.le_refl _))
      have hw1 := HB1.out.size
      obtain ⟨W1, hW1⟩ : ∃ W1, wr = W1 := ⟨_, rfl⟩
      rw [hW1] at HB1 hw1 sl ⊢
      have K3 := hide sl
      clear hi hz hz1 hz2 hra sl HU HR hW1 HS
      go_wp2_with fail
      go_loopw [3, 5] (fun o i wr => ∃ q : Nat, q ≤ 200 ∧ i = .int .i64 ((q : Int) + 1) ∧ OwnL wr W1.heap.size 3 (fun _ => False) o (keptTo l q) ∧ Below W1.heap.size W1 wr) (fun _ i _ => 201 - (intOf i).toNat)
      case atStart => exact ⟨0, by decide, rfl, OwnL.nil_ _ _ _ _, Below.refl _ _⟩
      case round =>
        obtain ⟨q, hq, rfl, hoq, hbq⟩ := hrel
        have HOQ := hide hoq; have HBQ := hide hbq
        have hwq := hbq.size
        clear hoq hbq
        by_cases hlq : q < 200
        · obtain ⟨v, hv⟩ : ∃ v : Int, (q : Int) + 1 = v := ⟨_, rfl⟩
          have hv1 : v ≤ 200 := by omega
          have hv2 : 1 ≤ v := by omega
          have HVQ := hide hv
          have HKS := hide (show keptTo l (q + 1) = keptTo l q ++ (if (l.any (hasV v) && !l.any (spilV v)) = true then [v] else []) by rw [keptTo_succ, hv])
          rw [hv]
          clear hv
          go_wp2_with fail
          go_loopw [6, 7, 8] (fun a b i wr => ∃ k : Nat, k ≤ n ∧ i = .int .i64 k ∧ a = .bool ((l.take k).any (hasV v)) ∧ b = .bool ((l.take k).any (spilV v)) ∧ OwnL wr W1.heap.size 3 (fun _ => False) u3 (keptTo l q) ∧ Below W1.heap.size W1 wr) (fun _ _ i _ => n - (intOf i).toNat)
          case atStart => exact ⟨0, Nat.zero_le _, rfl, rfl, rfl, HOQ.out, HBQ.out⟩
          clear HOQ HBQ
          case round =>
            obtain ⟨k, hk, rfl, rfl, rfl, hoq, hbq⟩ := hrel
            have HOK := hide hoq; have HBK := hide hbq
            have hwk := hbq.size
            have sl := K3.out.belowAll hbq
            have hoB := hoq.below_
            clear hoq hbq
            by_cases hltk : k < n
            · obtain ⟨b, off, bx, B1, m1, d1, B2, m2, d2, B3, m3, d3, rfl, hb, hx, s1, s2, s3, k0, k1, k2⟩ := at_Brief sl hltk
              have RB := G bx (List.mem_of_getElem? hx)
              have HT1 := hide (show (l.take (k + 1)).any (hasV v) = ((l.take k).any (hasV v) || hasV v bx) by rw [take_at hx]; simp)
              have HT2 := hide (show (l.take (k + 1)).any (spilV v) = ((l.take k).any (spilV v) || spilV v bx) by rw [take_at hx]; simp)
              obtain ⟨b1, hbb1⟩ : ∃ b1, (l.take k).any (hasV v) = b1 := ⟨_, rfl⟩
              obtain ⟨b2, hbb2⟩ : ∃ b2, (l.take k).any (spilV v) = b2 := ⟨_, rfl⟩
              rw [hbb1] at HT1 ⊢
              rw [hbb2] at HT2 ⊢
              obtain ⟨yy, hyy⟩ : ∃ yy, idxF (fun x => x == v) 0 bx.vars = yy := ⟨_, rfl⟩
              have HAT := hide (show Calls Tryz.prog 37 #[.slice B1 m1 d1, .int .i64 v] wr (Ret (.int .i64 yy) wr) from hyy ▸ dat_any wr _ _ _ _ _ s1 v)
              have hki : (k : Int) < n := by omega
              have L1' := s1.len; have L2' := s2.len
              have lc := RB.lc
              clear hbb1 hbb2 hx sl
              rcases idxF_at (f := fun x => x == v) bx.vars 0 with ⟨h0, hnone⟩ | ⟨i1, x1, h0, hx1, hxv⟩
              · obtain ⟨p1, _, p2⟩ := none_at hnone
                rw [hyy] at h0
                subst h0
                rw [p1] at HT1; rw [p2] at HT2
                clear hyy hnone p1 p2 s1 s2 s3 L1' L2' lc
                cases b1 <;> cases b2
                all_goals
                  go_wp2_with (go_at_call 37; (with_reducible refine (HAT.out).mono ?_); rintro e w' ⟨rfl, rfl⟩)
                  go_roundw
                  case rel => exact ⟨k + 1, by omega, by go_num, by rw [HT1.out]; rfl, by rw [HT2.out]; rfl, HOK.out, HBK.out⟩
                  case measure => simp [intOf]; omega
              · have hx1v : x1 = v := by simpa using hxv
                subst hx1v
                have hi1 : i1 < m2 := by have := (List.getElem?_eq_some_iff.1 hx1).1; omega
                obtain ⟨g5, o5, c', rfl, hb5, hc', _, e5⟩ := at_int s2 hi1
                obtain ⟨p1, _, p2⟩ := col_at RB hx1 hc'
                rw [hyy, Nat.zero_add] at h0
                subst h0
                rw [p1] at HT1; rw [p2] at HT2
                have hi1i : (i1 : Int) < m2 := by omega
                clear hyy p1 p2 s1 s2 s3 L1' L2' lc hx1 hxv hc'
                by_cases hc0 : c' < 0
                · rw [decide_eq_true hc0] at HT2
                  have hc0' : decide (c' < 0) = true := decide_eq_true hc0
                  cases b1 <;> cases b2
                  all_goals
                    go_wp2_with (go_at_call 37; (with_reducible refine (HAT.out).mono ?_); rintro e w' ⟨rfl, rfl⟩)
                    go_roundw
                    case rel => exact ⟨k + 1, by omega, by go_num, by rw [HT1.out]; rfl, by rw [HT2.out]; rfl, HOK.out, HBK.out⟩
                    case measure => simp [intOf]; omega
                · rw [decide_eq_false hc0] at HT2
                  have hc0' : decide (c' < 0) = false := decide_eq_false hc0
                  cases b1 <;> cases b2
                  all_goals
                    go_wp2_with (go_at_call 37; (with_reducible refine (HAT.out).mono ?_); rintro e w' ⟨rfl, rfl⟩)
                    go_roundw
                    case rel => exact ⟨k + 1, by omega, by go_num, by rw [HT1.out]; rfl, by rw [HT2.out]; rfl, HOK.out, HBK.out⟩
                    case measure => simp [intOf]; omega
            · have hkn : k = n := by omega
              subst hkn
              have hlk : l.take k = l := List.take_of_length_le (by rw [HL.out]; exact Nat.le_refl _)
              rw [hlk]
              obtain ⟨b1, hbb1⟩ : ∃ b1, l.any (hasV v) = b1 := ⟨_, rfl⟩
              obtain ⟨b2, hbb2⟩ : ∃ b2, l.any (spilV v) = b2 := ⟨_, rfl⟩
              rw [hbb1] at HKS ⊢
              rw [hbb2] at HKS ⊢
              have hln := keptTo_len l q
              have HIN := hide (show InI v by unfold InI; omega)
              have HQ2 := hide (show v + 1 = ((q + 1 : Nat) : Int) + 1 by have := HVQ.out; omega)
              have hvq : (q : Int) + 1 = v := HVQ.out
              clear hlk hbb1 hbb2 sl
              cases b1 <;> cases b2
              case true.false =>
                have HK2 := hide (show keptTo l (q + 1) = keptTo l q ++ [v] by rw [HKS.out]; rfl)
                go_wp2_with (at_builtin; refine wpList_push (α := Int) wr [.int .i64 v] 3 rfl (.tmp 65) (.tmp 67) 22 rfl W1.heap.size 3 i0 _ 8 Tryz.underlying22 HI0.out HZ.out HZ1.out HZ2.out rfl (by decide) (fun _ => False) (fun _ => False) u3 _ v rfl HOK.out _ rfl rfl ⟨rfl, HIN.out⟩ (fun _ h => h) (fun _ _ h => h) (fun _ h => h.elim) (by omega) (by omega) hwk ?_; intro v' w1 hown' hg _; have HO' := hide hown'; have HG := hide hg; clear hown' hg)
                first
                  | (go_roundw; case rel => exact ⟨q + 1, by omega, by rw [← HQ2.out], by rw [HK2.out]; exact HO'.out, (HBK.out.alloc (by omega) _).grown HG.out (by simp; omega) fun r e => (hoB r e).1⟩; case measure => simp [intOf]; omega)
                  | exact ⟨⟨q + 1, by omega, by rw [← HQ2.out], by rw [HK2.out]; exact HO'.out, (HBK.out.alloc (by omega) _).grown HG.out (by simp; omega) fun r e => (hoB r e).1⟩, by simp [intOf]; omega⟩
              all_goals
                have HK2 := hide (show keptTo l (q + 1) = keptTo l q by rw [HKS.out]; simp)
                go_wp2_with fail
                first
                  | (go_roundw; case rel => exact ⟨q + 1, by omega, by rw [← HQ2.out], by rw [HK2.out]; exact HOK.out, HBK.out⟩; case measure => simp [intOf]; omega)
                  | exact ⟨⟨q + 1, by omega, by rw [← HQ2.out], by rw [HK2.out]; exact HOK.out, HBK.out⟩, by simp [intOf]; omega⟩
        · have hq2 : q = 200 := by omega
          subst hq2
          go_wp2_with fail
          go_ret
          rw [HKB.out]
          exact ⟨_, rfl, HOQ.out.lowB hw1, HB1.out.trans (HBQ.out.mono hw1)⟩
set_option maxRecDepth 100000 in
set_option maxHeartbeats 8000000 in
theorem sameIntRows_any (w : World) (A A' : Option Addr) (n c c' : Nat) (hs hs' : List Hdr) (f : Nat → List Int) (h : Sl w (fun _ => True) A n c hs) (h' : Sl w (fun _ => True) A' n c' hs')
    (hr : ∀ k x, hs[k]? = some x → Sl w (fun _ => True) x.a x.n x.c (f k)) (hr' : ∀ k x, hs'[k]? = some x → Sl w (fun _ => True) x.a x.n x.c (f k)) :
    Calls Tryz.prog 24 #[.slice A n c, .slice A' n c'] w (RetX (.bool true) w) := by
  have hn := h.nle
  have HS := hide h; have HS' := hide h'; have HR := hide hr; have HR' := hide hr'
  clear h h' hr hr'
  go_enter Tryz.func24, Tryz.ntmps24
  go_wp2
  go_loopw [5] (fun i wr => ∃ k : Nat, k ≤ n ∧ i = .int .i64 k ∧ ∃ u, wr = w.ext u) (fun i _ => n - (intOf i).toNat)
  case atStart => exact ⟨0, Nat.zero_le _, rfl, ext_refl _⟩
  case round =>
    obtain ⟨k, hk, rfl, hu⟩ := hrel
    have sl : Sl wr (fun _ => True) A n c hs := by obtain ⟨u, rfl⟩ := hu; exact HS.out.ext u
    have sl' : Sl wr (fun _ => True) A' n c' hs' := by obtain ⟨u, rfl⟩ := hu; exact HS'.out.ext u
    have HU := hide hu
    by_cases hlt : k < n
    · obtain ⟨b, off, x, rfl, hb, _, hx, d1⟩ := at_hdr sl hlt
      obtain ⟨b', off', x', rfl, hb', _, hx', d2⟩ := at_hdr sl' hlt
      have s1 : Sl wr (fun _ => True) x.a x.n x.c (f k) := by obtain ⟨u, rfl⟩ := hu; exact (HR.out k x hx).ext u
      have s2 : Sl wr (fun _ => True) x'.a x'.n x'.c (f k) := by obtain ⟨u, rfl⟩ := hu; exact (HR'.out k x' hx').ext u
      have hxn : x'.n = x.n := by rw [← s1.len, ← s2.len]
      rw [hxn] at s2 d2
      have C := hide (fun u : Ext => sameInts_any (wr.ext u) _ _ x.a x'.a x.n x.c x'.c (f k) (s1.ext u) (s2.ext u))
      have hki : (k : Int) < n := by omega
      clear hu hx hx' sl sl' s1 s2 hxn
      go_wp2_with fail
      refine wp_region_ext (by kernel_rfl) (by kernel_rfl) ?_
      repeat (any_goals (first | go_big_quiet_step (((go_at_call 13; with_reducible exact quiet_retx (C.out _)))) | quiet_step (((go_at_call 13; with_reducible exact quiet_retx (C.out _))))))
      refine wpQuiet_nil ?_
      rintro _ ⟨uq, rfl⟩
      go_wp2_with fail
      go_roundw
      case rel => exact ⟨k + 1, by omega, by go_num, by obtain ⟨u, hu⟩ := HU.out; rw [hu]; exact ext_ext _ _ _⟩
      case measure => simp [intOf]; omega
    · clear sl sl' hu
      go_wp2_with fail
      go_ret
      exact RetX.b rfl (by obtain ⟨u, hu⟩ := HU.out; rw [hu]; exact Below.of_ext w u (Nat.le_refl _))
end Go.Proofs.YthmglmmafgdmhaaGreat
