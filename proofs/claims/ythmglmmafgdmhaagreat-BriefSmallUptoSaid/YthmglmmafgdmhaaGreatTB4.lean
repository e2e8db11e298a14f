/- Walks: what variables are worth. -/
import Derived.Test.YthmglmmafgdmhaaGreatTB3
import Derived.Test.YthmglmmafgdmhaaGreatW3
set_option linter.unusedSimpArgs false
set_option linter.unusedVariables false
namespace Go.Proofs.YthmglmmafgdmhaaGreat
open Go.RowKit Go.Maps

theorem setL_snoc (f : Int → Option Int) (l : List (Int × Int)) (p : Int × Int) : setL f (l ++ [p]) = setT (setL f l) p := by simp [setL, List.foldl_append]
/-- It returns a list that it has made, and an error. -/
def RetIE (r : List Int × Int) (w : World) (e : Ending) (w' : World) : Prop :=
  ∃ v, e = .returned (.tuple #[v, .int .i64 r.2]) ∧ OwnL w' w.heap.size 3 (fun _ => False) v r.1 ∧ Below w.heap.size w w'
theorem zip_at {a b : List Int} {k : Nat} {x y : Int} (h1 : a[k]? = some x) (h2 : b[k]? = some y) : (a.zip b)[k]? = some (x, y) := (List.getElem?_zip_eq_some (z := (x, y))).2 ⟨h1, h2⟩
theorem _root_.Go.Proofs.YthmglmmafgdmhaaGreat.MapP.ne_own {P : Program} {α β γ : Type} [Rep γ] {K : KeyT P α} {E : ElT P β} {w : World} {b n base : Nat} {f : α → Option β} {T : TypeId} {S : Nat → Prop} {v : Value} {xs : List γ} (h : MapP K E w b n f) (ho : OwnL w base T S v xs) : v.ownBlock ≠ some b := by
  intro e
  obtain ⟨D, ⟨es, clock, hb, _⟩, _⟩ := h
  obtain ⟨vals, ⟨_, h2⟩, _⟩ := ho
  rcases h2 with ⟨rfl, _⟩ | ⟨g, cap, cur, rfl, _, hh, _⟩
  · cases e
  · injection e with e
    simp only at e
    subst e
    rw [hb] at hh
    cases hh
set_option maxHeartbeats 2000000 in
theorem worth_any (w : World) (S : Nat → Prop) (A1 A2 A3 : Option Addr) (n1 c1 n2 c2 n3 c3 : Nat) (vars weight : List Int) (l : List Brief) (h1 : Sl w S A1 n1 c1 vars) (h2 : Sl w S A2 n2 c2 weight) (h3 : Sl w S A3 n3 c3 l) :
    Calls Tryz.prog 10 #[.slice A1 n1 c1, .slice A2 n2 c2, .slice A3 n3 c3] w (RetIE (worthT vars weight l) w) := by
  have L1 := h1.len; have L2 := h2.len; have L3 := h3.len
  have hn1 := h1.nle; have hn2 := h2.nle; have hn3 := h3.nle
  have H1 := hide h1; have H2 := hide h2; have H3 := hide h3
  obtain ⟨r, hr⟩ : ∃ r, risingF 0 vars = r := ⟨_, rfl⟩
  obtain ⟨ow, how⟩ : ∃ r, anyF (outF 0 1099511627776) weight = r := ⟨_, rfl⟩
  obtain ⟨ol, hol⟩ : ∃ r, anyF (fun b => !rightB b) l = r := ⟨_, rfl⟩
  have HR := hide (show Calls Tryz.prog 28 #[.slice A1 n1 c1] w (Ret (.bool r) w) from hr ▸ rising_any w S A1 n1 c1 vars h1)
  have HC := hide (fun (W : World) (hb : Below w.heap.size w W) (v : Value) (hv : OutP 0 1099511627776 v W) => show Calls Tryz.prog 29 #[.slice A2 n2 c2, v] W (RetX (.bool ow) W) from how ▸ outInts_any _ S A2 n2 c2 weight _ _ v (h2.belowAll hb) hv)
  have HL := hide (fun (W : World) (hb : Below w.heap.size w W) => show Calls Tryz.prog 31 #[.slice A3 n3 c3, .func (.func 32) #[] #[]] W (RetX (.bool ol) W) from hol ▸ wrongs_any _ S A3 n3 c3 l (h3.belowAll hb))
  have HG := hide (show goodW vars weight l = (r && (decide (n2 = n1) && (!ow && (decide (n3 ≤ 200) && !ol)))) by unfold goodW; rw [hr, how, hol, L1, L2, L3])
  have HT := hide (fun (h : goodW vars weight l = false) => show worthT vars weight l = ([], 2) by unfold worthT; rw [h]; rfl)
  clear h1 h2 h3 hr how hol L1 L2 L3
  go_enter Tryz.func10, Tryz.ntmps10
  cases r
  · go_wp2_with (first
      | (go_at_call 28; (with_reducible refine HR.out.mono ?_); rintro e w' ⟨rfl, rfl⟩)
      | (go_at_call 30; refine (outside_any _ _ _).mono ?_; rintro e w' ⟨v9, rfl, hp, u9, rfl⟩)
      | (go_at_call 29; (with_reducible refine (HC.out _ (Below.of_ext w _ (Nat.le_refl _)) _ hp).mono ?_); rintro e _ ⟨rfl, u8, rfl⟩)
      | (go_at_call 31; (with_reducible refine (HL.out _ ((Below.of_ext w _ (Nat.le_refl _)).ext (by rw [size_ext]; omega) _)).mono ?_); rintro e _ ⟨rfl, u7, rfl⟩))
    go_ret2
    exact ⟨_, by rw [HT.out (by rw [HG.out]; rfl)]; rfl, by rw [HT.out (by rw [HG.out]; rfl)]; exact OwnL.nil_ _ _ _ _, (by repeat (first | exact Below.refl _ _ | assumption | refine Below.alloc ?_ (by simp [size_ext]; try omega) _ | refine Below.ext ?_ (by simp [size_ext]; try omega) _ | refine Below.drew ?_ | refine Below.setCell ?_ (by simp [size_ext]; try omega) _))⟩
  by_cases e2 : n2 = n1
  case neg =>
    go_wp2_with (first
      | (go_at_call 28; (with_reducible refine HR.out.mono ?_); rintro e w' ⟨rfl, rfl⟩)
      | (go_at_call 30; refine (outside_any _ _ _).mono ?_; rintro e w' ⟨v9, rfl, hp, u9, rfl⟩)
      | (go_at_call 29; (with_reducible refine (HC.out _ (Below.of_ext w _ (Nat.le_refl _)) _ hp).mono ?_); rintro e _ ⟨rfl, u8, rfl⟩)
      | (go_at_call 31; (with_reducible refine (HL.out _ ((Below.of_ext w _ (Nat.le_refl _)).ext (by rw [size_ext]; omega) _)).mono ?_); rintro e _ ⟨rfl, u7, rfl⟩))
    go_ret2
    exact ⟨_, by rw [HT.out (by rw [HG.out]; simp [*])]; rfl, by rw [HT.out (by rw [HG.out]; simp [*])]; exact OwnL.nil_ _ _ _ _, (by repeat (first | exact Below.refl _ _ | assumption | refine Below.alloc ?_ (by simp [size_ext]; try omega) _ | refine Below.ext ?_ (by simp [size_ext]; try omega) _ | refine Below.drew ?_ | refine Below.setCell ?_ (by simp [size_ext]; try omega) _))⟩
  subst e2
  cases ow
  case true =>
    go_wp2_with (first
      | (go_at_call 28; (with_reducible refine HR.out.mono ?_); rintro e w' ⟨rfl, rfl⟩)
      | (go_at_call 30; refine (outside_any _ _ _).mono ?_; rintro e w' ⟨v9, rfl, hp, u9, rfl⟩)
      | (go_at_call 29; (with_reducible refine (HC.out _ (Below.of_ext w _ (Nat.le_refl _)) _ hp).mono ?_); rintro e _ ⟨rfl, u8, rfl⟩)
      | (go_at_call 31; (with_reducible refine (HL.out _ ((Below.of_ext w _ (Nat.le_refl _)).ext (by rw [size_ext]; omega) _)).mono ?_); rintro e _ ⟨rfl, u7, rfl⟩))
    go_ret2
    exact ⟨_, by rw [HT.out (by rw [HG.out]; simp [*])]; rfl, by rw [HT.out (by rw [HG.out]; simp [*])]; exact OwnL.nil_ _ _ _ _, (by repeat (first | exact Below.refl _ _ | assumption | refine Below.alloc ?_ (by simp [size_ext]; try omega) _ | refine Below.ext ?_ (by simp [size_ext]; try omega) _ | refine Below.drew ?_ | refine Below.setCell ?_ (by simp [size_ext]; try omega) _))⟩
  by_cases e3 : 200 < n3
  · have e4 : (200 : Int) < n3 := by omega
    go_wp2_with (first
      | (go_at_call 28; (with_reducible refine HR.out.mono ?_); rintro e w' ⟨rfl, rfl⟩)
      | (go_at_call 30; refine (outside_any _ _ _).mono ?_; rintro e w' ⟨v9, rfl, hp, u9, rfl⟩)
      | (go_at_call 29; (with_reducible refine (HC.out _ (Below.of_ext w _ (Nat.le_refl _)) _ hp).mono ?_); rintro e _ ⟨rfl, u8, rfl⟩)
      | (go_at_call 31; (with_reducible refine (HL.out _ ((Below.of_ext w _ (Nat.le_refl _)).ext (by rw [size_ext]; omega) _)).mono ?_); rintro e _ ⟨rfl, u7, rfl⟩))
    go_ret2
    exact ⟨_, by rw [HT.out (by rw [HG.out]; simp; omega)]; rfl, by rw [HT.out (by rw [HG.out]; simp; omega)]; exact OwnL.nil_ _ _ _ _, (by repeat (first | exact Below.refl _ _ | assumption | refine Below.alloc ?_ (by simp [size_ext]; try omega) _ | refine Below.ext ?_ (by simp [size_ext]; try omega) _ | refine Below.drew ?_ | refine Below.setCell ?_ (by simp [size_ext]; try omega) _))⟩
  have e4 : (n3 : Int) ≤ 200 := by omega
  cases ol
  case true =>
    go_wp2_with (first
      | (go_at_call 28; (with_reducible refine HR.out.mono ?_); rintro e w' ⟨rfl, rfl⟩)
      | (go_at_call 30; refine (outside_any _ _ _).mono ?_; rintro e w' ⟨v9, rfl, hp, u9, rfl⟩)
      | (go_at_call 29; (with_reducible refine (HC.out _ (Below.of_ext w _ (Nat.le_refl _)) _ hp).mono ?_); rintro e _ ⟨rfl, u8, rfl⟩)
      | (go_at_call 31; (with_reducible refine (HL.out _ ((Below.of_ext w _ (Nat.le_refl _)).ext (by rw [size_ext]; omega) _)).mono ?_); rintro e _ ⟨rfl, u7, rfl⟩))
    go_ret2
    exact ⟨_, by rw [HT.out (by rw [HG.out]; simp [*])]; rfl, by rw [HT.out (by rw [HG.out]; simp [*])]; exact OwnL.nil_ _ _ _ _, (by repeat (first | exact Below.refl _ _ | assumption | refine Below.alloc ?_ (by simp [size_ext]; try omega) _ | refine Below.ext ?_ (by simp [size_ext]; try omega) _ | refine Below.drew ?_ | refine Below.setCell ?_ (by simp [size_ext]; try omega) _))⟩
  have hmm := @run_makeMap Tryz.prog
  go_wp2_with (first
      | (go_at_call 28; (with_reducible refine HR.out.mono ?_); rintro e w' ⟨rfl, rfl⟩)
      | (go_at_call 30; refine (outside_any _ _ _).mono ?_; rintro e w' ⟨v9, rfl, hp, u9, rfl⟩)
      | (go_at_call 29; (with_reducible refine (HC.out _ (Below.of_ext w _ (Nat.le_refl _)) _ hp).mono ?_); rintro e _ ⟨rfl, u8, rfl⟩)
      | (go_at_call 31; (with_reducible refine (HL.out _ ((Below.of_ext w _ (Nat.le_refl _)).ext (by rw [size_ext]; omega) _)).mono ?_); rintro e _ ⟨rfl, u7, rfl⟩))
  all_goals try omega
  obtain ⟨Z, hZ⟩ : ∃ Z, ((w.ext u9).ext u8).ext u7 = Z := ⟨_, rfl⟩
  have HBZ := hide (show Below w.heap.size w Z by rw [← hZ]; exact (by repeat (first | exact Below.refl _ _ | assumption | refine Below.alloc ?_ (by simp [size_ext]; try omega) _ | refine Below.ext ?_ (by simp [size_ext]; try omega) _ | refine Below.drew ?_ | refine Below.setCell ?_ (by simp [size_ext]; try omega) _)))
  have hzs : Z.heap.size = w.heap.size + u9.blocks.size + u8.blocks.size + u7.blocks.size := by rw [← hZ]; simp [size_ext]
  rw [hZ]
  obtain ⟨mb, hmb⟩ : ∃ mb, w.heap.size + u9.blocks.size + u8.blocks.size + u7.blocks.size = mb := ⟨_, rfl⟩
  have hwm : w.heap.size ≤ mb := by omega
  obtain ⟨W0, hW0⟩ : ∃ W0, Z.alloc (.map #[] 0) = W0 := ⟨_, rfl⟩
  have HM0 := hide (show IMap W0 mb 0 (fun _ => none) by rw [← hW0, ← hmb, ← hzs]; exact MapP.made Z)
  have HB0 := hide (show Below w.heap.size w W0 by rw [← hW0]; exact HBZ.out.alloc HBZ.out.size _)
  rw [hW0, hmb]
  have HGW := hide (goodW_of (show goodW vars weight l = true by rw [HG.out]; simp; omega))
  have HRT := hide (show worthT vars weight l = (worthR vars weight l, 0) by unfold worthT; rw [HG.out]; rw [if_pos (by simp; omega)])
  have K1 := hide (H1.out.more (S' := fun b => b < w.heap.size) fun b hb _ => hb)
  have K2 := hide (H2.out.more (S' := fun b => b < w.heap.size) fun b hb _ => hb)
  have K3 := hide (H3.out.more (S' := fun b => b < w.heap.size) fun b hb _ => hb)
  have L1 := hide H1.out.len; have L2 := hide H2.out.len; have L3 := hide H3.out.len
  have hn2' : n2 ≤ 200 := by have := rising_few HGW.out.rise; have := L1.out; omega
  clear hZ hW0 hmb hzs HBZ HR HC HL HG HT hp H1 H2 H3 hmm e3
  go_loopw [9, 10, 42] (fun _ _ i wr => ∃ k : Nat, k ≤ n2 ∧ i = .int .i64 k ∧ IMap wr mb k (setL (fun _ => none) ((vars.zip weight).take k)) ∧ Below w.heap.size w wr) (fun _ _ i _ => n2 - (intOf i).toNat)
  case atStart => exact ⟨0, Nat.zero_le _, rfl, HM0.out, HB0.out⟩
  case round =>
    obtain ⟨k, hk, rfl, hmk, hbk⟩ := hrel
    have HMK := hide hmk; have HBK := hide hbk
    have s1 := K1.out.below hbk (fun b h => h)
    have s2 := K2.out.below hbk (fun b h => h)
    clear hmk hbk
    by_cases hlt : k < n2
    · obtain ⟨g1, o1, v, rfl, hb1, hv, hvi, d1⟩ := at_int s1 hlt
      obtain ⟨g2, o2, c, rfl, hb2, hc, hci, d2⟩ := at_int s2 hlt
      have HP := hide (take_at (zip_at hv hc))
      have HVI := hide hvi; have HCI := hide hci
      clear hv hc hvi hci s1 s2
      go_wp2_with (at_mapUpdate; refine wpList_put_map (K := iK) (E := iE) rfl (.tmp 47) (.tmp 48) (.tmp 52) 59 rfl Tryz.underlying59 rfl HMK.out (by unfold maxLen; omega) v rfl HVI.out c rfl HCI.out ?_; intro w9 hm9 hg9; have HM9 := hide hm9; have HG9 := hide hg9; clear hm9 hg9)
      go_roundw
      case rel => exact ⟨k + 1, by omega, by go_num, by rw [HP.out, setL_snoc]; exact HM9.out, HBK.out.grown HG9.out HBK.out.size (fun g e => by injection e with e; omega)⟩
      case measure => simp [intOf]; omega
    · have hkn : k = n2 := by omega
      subst hkn
      obtain ⟨F0, hF0⟩ : ∃ F0, setL (fun _ => none) (vars.zip weight) = F0 := ⟨_, rfl⟩
      have hzl : (vars.zip weight).length = k := by rw [List.length_zip, L1.out, L2.out]; omega
      have HMF := hide (show IMap wr mb k F0 by have := HMK.out; rw [List.take_of_length_le (by omega), hF0] at this; exact this)
      have HD0 := hide (show ∀ v, -1099511627776 ≤ (F0 v).getD 0 ∧ (F0 v).getD 0 ≤ 1099511627776 by
        rw [← hF0]
        exact setL_bd (by decide) _ _ (fun v => by simp) (fun p hp => by have := HGW.out.wt _ (List.of_mem_zip hp).2; omega))
      have HF0 := hide hF0
      clear s1 s2 HMK hF0 HM0 HB0
      go_wp2_with fail
      go_loopw [12, 56] (fun _ i wr => ∃ j : Nat, j ≤ n3 ∧ i = .int .i64 j ∧ (∃ N, N ≤ k + 200 * j ∧ IMap wr mb N (addL F0 (allPairs (l.take j)))) ∧ Below w.heap.size w wr) (fun _ i _ => n3 - (intOf i).toNat)
      case atStart => exact ⟨0, Nat.zero_le _, rfl, ⟨k, by omega, HMF.out⟩, HBK.out⟩
      case round =>
        obtain ⟨j, hj, rfl, ⟨N, hN, hmj⟩, hbj⟩ := hrel
        have HMJ := hide hmj; have HBJ := hide hbj
        have s3 := K3.out.below hbj (fun b h => h)
        have hwj := hbj.size
        clear hmj hbj HMF HBK hzl
        by_cases hlj : j < n3
        · obtain ⟨b, off, x, B1, m1, q1, B2, m2, q2, B3, m3, q3, rfl, hb, hx, t1, t2, t3, d0, d1, d2⟩ := at_Brief s3 hlj
          have HX := hide (take_at hx)
          have hxr := HGW.out.all x (List.mem_of_getElem? hx)
          obtain ⟨X, hX⟩ : ∃ X, wr.alloc (.cells #[.slice B1 m1 q1, .slice B2 m2 q2, .slice B3 m3 q3] 43) = X := ⟨_, rfl⟩
          have HBX := hide (show Below w.heap.size w X by rw [← hX]; exact HBJ.out.alloc hwj _)
          have hm1 : m1 ≤ 200 := by have := rising_few hxr.rise; have := t1.len; omega
          have hpl : (allPairs (l.take j)).length ≤ 200 * j := by
            have key : ∀ (ls : List Brief), (∀ b ∈ ls, RightB b) → (allPairs ls).length ≤ 200 * ls.length := by
              intro ls
              induction ls with
              | nil => intro _; simp [allPairs]
              | cons b ls ih =>
                intro hr
                have h1 := ih fun x hx => hr x (by simp [hx])
                have h2 := pairsB_len (hr b (by simp))
                have h3 := rising_few (hr b (by simp)).rise
                have e : allPairs (b :: ls) = pairsB b ++ allPairs ls := by simp [allPairs]
                rw [e, List.length_append, List.length_cons]; omega
            have h1 := key (l.take j) fun x hx => HGW.out.all x (List.mem_of_mem_take hx)
            have h2 : (l.take j).length ≤ j := List.length_take_le _ _
            omega
          have hpb : ∀ p ∈ allPairs (l.take j), -1099511627776 ≤ p.2 ∧ p.2 ≤ 1099511627776 := by
            intro p hp
            obtain ⟨t, ht, hp⟩ := List.mem_flatten.1 hp
            obtain ⟨b, hb, rfl⟩ := List.mem_map.1 ht
            exact pairsB_bd (HGW.out.all b (List.mem_of_mem_take hb)) p hp
          have HA := hide (add_any X (fun b => b < w.heap.size) x B1 B2 B3 m1 q1 m2 q2 m3 q3 (by rw [← hX]; exact t1.alloc _) (by rw [← hX]; exact t2.alloc _) (by rw [← hX]; exact t3.alloc _) hxr mb N _ (by rw [← hX]; exact HMJ.out.alloc _) (by omega) (1099511627776 + ((allPairs (l.take j)).length : Int) * 1099511627776) (addL_bd (by decide) _ _ _ HD0.out hpb) (by omega) (by omega))
          have hXk : X.cell? ⟨wr.heap.size, 0, none⟩ = some (.slice B1 m1 q1) ∧ X.cell? ⟨wr.heap.size, 1, none⟩ = some (.slice B2 m2 q2) ∧ X.cell? ⟨wr.heap.size, 2, none⟩ = some (.slice B3 m3 q3) := by
            have hr : X.heap[wr.heap.size]? = some (.cells #[.slice B1 m1 q1, .slice B2 m2 q2, .slice B3 m3 q3] 43 (0, 0)) := by rw [← hX]; exact heap_alloc_new wr _
            exact ⟨cell_of_row X _ _ _ _ (0, 0) hr, cell_of_row X _ _ _ _ (0, 0) hr, cell_of_row X _ _ _ _ (0, 0) hr⟩
          obtain ⟨f0, f1, f2⟩ := hXk
          have hXl : wr.heap.size < X.heap.size := by rw [← hX]; simp
          clear t1 t2 t3 hxr hx hpl hpb s3
          go_wp2_with (go_at_call 33; (with_reducible refine HA.out.mono ?_); rintro e w' ⟨rfl, hm9, hg9⟩; have HM9 := hide hm9; have HG9 := hide hg9; clear hm9 hg9)
          go_roundw
          case rel => exact ⟨j + 1, by omega, by go_num, ⟨N + m1, by omega, by rw [HX.out, allPairs_snoc]; have h := HM9.out; unfold addL at h ⊢; rw [List.foldl_append]; exact h⟩, HBX.out.grown HG9.out HBX.out.size (fun g e => by injection e with e; omega)⟩
          case measure => simp [intOf]; omega
        · have hjn : j = n3 := by omega
          subst hjn
          obtain ⟨F1, hF1⟩ : ∃ F1, addL F0 (allPairs l) = F1 := ⟨_, rfl⟩
          have HMF := hide (show IMap wr mb N F1 by have := HMJ.out; rw [List.take_of_length_le (by rw [L3.out]; omega), hF1] at this; exact this)
          have HWV := hide (fun (i : Nat) (v c : Int) (hv : vars[i]? = some v) (hc : weight[i]? = some c) => show (F1 v).getD 0 = c + sumB v l by
            rw [← hF1, addL_get, ← HF0.out, sumAt_all v HGW.out.all]
            have hz := zip_at hv hc
            have hk : ((vars.zip weight).map (·.1)) = vars := List.map_fst_zip (by rw [L1.out, L2.out]; omega)
            have := setL_get (vars.zip weight) (fun _ => none) (v, c) (by rw [hk]; exact risingF_nodup HGW.out.rise) (List.mem_of_getElem? hz)
            rw [show setL (fun _ => none) (vars.zip weight) v = some c from this]; rfl)
          obtain ⟨i0, hi, hz, hz1, hz2⟩ := info_parts info_int
          have HI0 := hide hi; have HZ := hide hz; have HZ1 := hide hz1; have HZ2 := hide hz2
          clear hi hz hz1 hz2 hF1 HMJ s3 HF0 HD0
          go_wp2_with fail
          go_loopw [6, 14, 67] (fun o _ i wr => ∃ q : Nat, q ≤ k ∧ i = .int .i64 q ∧ IMap wr mb N F1 ∧ OwnL wr w.heap.size 3 (fun _ => False) o ((worthR vars weight l).take q) ∧ Below w.heap.size w wr) (fun _ _ i _ => k - (intOf i).toNat)
          case atStart => exact ⟨0, Nat.zero_le _, rfl, HMF.out, OwnL.nil_ _ _ _ _, HBJ.out⟩
          case round =>
            obtain ⟨q, hq, rfl, hmq, hoq, hbq⟩ := hrel
            have HMQ := hide hmq; have HOQ := hide hoq; have HBQ := hide hbq
            have s1 := K1.out.below hbq (fun b h => h)
            have s2 := K2.out.below hbq (fun b h => h)
            have hwq := hbq.size
            have hoB := hoq.below_
            clear hmq hoq hbq HMF HBJ
            by_cases hlq : q < k
            · obtain ⟨g1, o1, v, rfl, hb1, hv, hvi, d1⟩ := at_int s1 hlq
              obtain ⟨g2, o2, c, rfl, hb2, hc, hci, d2⟩ := at_int s2 hlq
              have hwv := HWV.out q v c hv hc
              obtain ⟨y, hy⟩ : ∃ y, (F1 v).getD 0 = y := ⟨_, rfl⟩
              rw [hy] at hwv
              have hcb := HGW.out.wt c (List.mem_of_getElem? hc)
              have hsb := sumB_bd v HGW.out.all
              have hl3 : (l.length : Int) * 1099511627776 ≤ 200 * 1099511627776 := Int.mul_le_mul_of_nonneg_right (by have := L3.out; omega) (by decide)
              have HIN := hide (show InI (max y 0) by unfold InI; omega)
              have HTK := hide (show (worthR vars weight l).take (q + 1) = (worthR vars weight l).take q ++ [max y 0] by
                apply take_at
                unfold worthR
                rw [List.getElem?_map, zip_at hv hc]
                show some (worthV l (v, c)) = _
                unfold worthV
                rw [hwv])
              have hqq := MapP.get (K := iK) (E := iE) HMQ.out Tryz.underlying59 (x := v) hvi
              change (Instr.lookup 59 (.map (some mb)) (.int .i64 v) false).run Tryz.prog wr = .ok (.int .i64 ((F1 v).getD 0)) wr at hqq
              rw [hy] at hqq
              have hlen : ((worthR vars weight l).take q).length ≤ 200 := by rw [List.length_take]; omega
              clear hv hc hvi hci hwv hcb hsb hl3 s1 s2
              have HY := hide hy
              clear hy
              by_cases hy0 : y < 0
              · rw [show max y 0 = 0 by omega] at HIN HTK
                go_wp2_with (at_builtin; refine wpList_push (α := Int) wr [.int .i64 0] 3 rfl (.tmp 71) (.tmp 76) 22 rfl w.heap.size 3 i0 _ 8 Tryz.underlying22 HI0.out HZ.out HZ1.out HZ2.out rfl (by decide) (fun _ => False) (fun _ => False) u6 _ 0 rfl HOQ.out _ rfl rfl ⟨rfl, HIN.out⟩ (fun _ h => h) (fun _ _ h => h) (fun _ h => h.elim) ?hl1 ?hl2 hwq ?_; rotate_left 2; intro v' w1 hown' hg _; have HO' := hide hown'; have HG := hide hg; clear hown' hg)
                case hl1 => first | omega | (unfold maxLen; omega)
                case hl2 => first | omega | (unfold maxLen; omega)
                go_wp2
                go_roundw
                case rel =>
                  have hb1 := below_push HBQ.out HOQ.out hwq HG.out
                  exact ⟨q + 1, by omega, by go_num, (HMQ.out.alloc _).kept HG.out (by intro e; exact HMQ.out.ne_own HOQ.out e.symm), by rw [HTK.out]; exact HO'.out, hb1⟩
                case measure => simp [intOf]; omega
              · have hy1 : 0 ≤ y := by omega
                rw [show max y 0 = y by omega] at HIN HTK
                go_wp2_with (at_builtin; refine wpList_push (α := Int) wr [.int .i64 y] 3 rfl (.tmp 71) (.tmp 76) 22 rfl w.heap.size 3 i0 _ 8 Tryz.underlying22 HI0.out HZ.out HZ1.out HZ2.out rfl (by decide) (fun _ => False) (fun _ => False) u6 _ y rfl HOQ.out _ rfl rfl ⟨rfl, HIN.out⟩ (fun _ h => h) (fun _ _ h => h) (fun _ h => h.elim) ?hl1 ?hl2 hwq ?_; rotate_left 2; intro v' w1 hown' hg _; have HO' := hide hown'; have HG := hide hg; clear hown' hg)
                case hl1 => first | omega | (unfold maxLen; omega)
                case hl2 => first | omega | (unfold maxLen; omega)
                go_wp2
                go_roundw
                case rel =>
                  have hb1 := below_push HBQ.out HOQ.out hwq HG.out
                  exact ⟨q + 1, by omega, by go_num, (HMQ.out.alloc _).kept HG.out (by intro e; exact HMQ.out.ne_own HOQ.out e.symm), by rw [HTK.out]; exact HO'.out, hb1⟩
                case measure => simp [intOf]; omega
            · have hqk : q = k := by omega
              subst hqk
              have hwl : (worthR vars weight l).length = q := by unfold worthR; rw [List.length_map, List.length_zip, L1.out, L2.out]; omega
              go_wp2
              go_ret2
              exact ⟨_, by rw [HRT.out]; rfl, by rw [HRT.out]; have := HOQ.out; rwa [List.take_of_length_le (by omega)] at this, HBQ.out⟩
end Go.Proofs.YthmglmmafgdmhaaGreat
