/- Walks: the program's moves: Busy, sound, Right. -/
import Derived.Test.YtoghikagooegbaaMV1
import Derived.Test.YtoghikagooegbaaLocK
import Derived.Test.YtoghikagooegbaaPush
import Derived.Test.YtoghikagooegbaaR1
import Derived.Deep.DeepCutAuto
import Derived.Deep.CutBlock
set_option linter.unusedSimpArgs false
set_option linter.unusedVariables false
namespace Go.Proofs.Ytoghikagooegbaa
open Go.RowKit Go.Maps

theorem info_Move : (Try.prog.info? 42).map (fun i => (i.zero, i.size, i.bytes)) = some (some (.agg #[.bool false, .int .i64 0, .bool false, .int .i64 0]), 4, 32) := by kernel_rfl
theorem busy_take {xs : List Move} {k : Nat} {x : Move} (h : xs[k]? = some x) : busyM (xs.take (k + 1)) = busyM (xs.take k) ++ (if x.src = x.dst then [] else [x]) := by
  rw [take_at h]
  unfold busyM
  rw [List.filter_append]
  congr 1
  by_cases hx : x.src = x.dst <;> simp [hx]
theorem busy_le (l : List Move) : (busyM l).length ≤ l.length := List.length_filter_le _ _
set_option maxHeartbeats 1600000 in
theorem busy_any (w : World) (S : Nat → Prop) (A : Option Addr) (n c : Nat) (xs : List Move) (h : Sl w S A n c xs) (hm : n ≤ 1048576) :
    Calls Try.prog 11 #[.slice A n c] w (RetO 42 (busyM xs) w) := by
  have HL := hide h.len
  have HS := hide h
  clear h
  obtain ⟨i0, hi, hz, hz1, hz2⟩ := info_parts info_Move
  have HI0 := hide hi; have HZ := hide hz; have HZ1 := hide hz1; have HZ2 := hide hz2
  clear hi hz hz1 hz2
  go_enter Try.func11, Try.ntmps11
  go_wp2_with fail
  go_loopw [2, 7] (fun o i wr => ∃ k : Nat, k ≤ n ∧ i = .int .i64 k ∧ OwnL wr w.heap.size 42 (fun _ => False) o (busyM (xs.take k)) ∧ Below w.heap.size w wr) (fun _ i _ => n - (intOf i).toNat)
  case atStart => exact ⟨0, Nat.zero_le _, rfl, OwnL.nil_ _ _ _ _, Below.refl _ _⟩
  case round =>
    obtain ⟨k, hk, rfl, hoq, hbq⟩ := hrel
    have HOQ := hide hoq; have HBQ := hide hbq
    have hsl := HS.out.below hbq
    have hwq := hbq.size
    clear hoq hbq
    by_cases hlt : k < n
    · obtain ⟨b, off, x, rfl, hb, hx, hx1, hx2, c0, c1, c2, c3⟩ := at_Move (HS.out.belowAll HBQ.out) hlt
      have HT := hide (busy_take hx)
      have HX1 := hide hx1; have HX2 := hide hx2
      have hki : (k : Int) < n := by omega
      have hln : (busyM (xs.take k)).length ≤ 1048576 := by have := busy_le (xs.take k); rw [List.length_take] at this; omega
      obtain ⟨p, hp⟩ : ∃ p, decide (x.src = x.dst) = p := ⟨_, rfl⟩
      have HID := hide (fun W => hp ▸ idle_any W x)
      have HP := hide hp
      clear hx hsl hx1 hx2 hp
      go_wp2_with (go_at_call 29; (with_reducible refine (HID.out _).mono ?_); rintro e _ ⟨rfl, ux, rfl⟩; refine Hd.out ?_)
      obtain ⟨g, hg⟩ : ∃ g, wr.heap.size = g := ⟨_, rfl⟩
      obtain ⟨W, hW⟩ : ∃ W, (wr.alloc (.cells #[.bool x.src.slot, .int .i64 x.src.n, .bool x.dst.slot, .int .i64 x.dst.n] 42)).ext ux = W := ⟨_, rfl⟩
      have hwW : wr.heap.size < W.heap.size := by rw [← hW, size_ext]; simp; omega
      have hbW : Below wr.heap.size wr W := by rw [← hW]; exact ((Below.refl _ _).alloc (Nat.le_refl _) _).ext (by simp) ux
      have hrow : W.heap[g]? = some (.cells #[.bool x.src.slot, .int .i64 x.src.n, .bool x.dst.slot, .int .i64 x.dst.n] 42 (0, 0)) := by
        rw [← hW, ← hg]; exact (ext_block _ ux _ (by simp)).trans (heap_alloc_new wr _)
      have m0 : W.cell? ⟨g, 0, none⟩ = some (.bool x.src.slot) := cell_of_row W g _ _ _ (0, 0) hrow
      have m1 : W.cell? ⟨g, 1, none⟩ = some (.int .i64 x.src.n) := cell_of_row W g _ _ _ (0, 0) hrow
      have m2 : W.cell? ⟨g, 2, none⟩ = some (.bool x.dst.slot) := cell_of_row W g _ _ _ (0, 0) hrow
      have m3 : W.cell? ⟨g, 3, none⟩ = some (.int .i64 x.dst.n) := cell_of_row W g _ _ _ (0, 0) hrow
      have hgW : g < W.heap.size := by omega
      have HOW := hide (HOQ.out.keep hbW.size (fun _ hf => hf.elim) fun g hg => hbW.block g (HOQ.out.below_ g hg).2)
      have HBW := hide (HBQ.out.trans (hbW.mono hwq))
      have hoB := HOW.out.below_
      rw [hW, hg]
      clear hW hbW hrow c0 c1 c2 c3 hg hwW HID
      have hwW := HBW.out.size
      refine hide ?_
      cases p with
      | true =>
        have HT2 := hide (show busyM (xs.take (k + 1)) = busyM (xs.take k) by rw [HT.out, if_pos (by simpa using HP.out), List.append_nil])
        go_wp2_with fail
        first
          | (go_roundw; case rel => exact ⟨k + 1, by omega, by go_num, by rw [HT2.out]; exact HOW.out, HBW.out⟩; case measure => simp [intOf]; omega)
          | exact ⟨⟨k + 1, by omega, by go_num, by rw [HT2.out]; exact HOW.out, HBW.out⟩, by simp [intOf]; omega⟩
      | false =>
        have HT2 := hide (show busyM (xs.take (k + 1)) = busyM (xs.take k) ++ [x] by rw [HT.out, if_neg (by simpa using HP.out)])
        go_wp2_with (at_builtin; refine wpList_push (α := Move) W [.bool x.src.slot, .int .i64 x.src.n, .bool x.dst.slot, .int .i64 x.dst.n] 42 rfl (.tmp 14) (.tmp 16) 22 rfl w.heap.size 42 i0 _ 32 Try.underlying22 HI0.out HZ.out HZ1.out HZ2.out rfl (by decide) (fun _ => False) (fun _ => False) u2 _ x rfl HOW.out _ rfl rfl (Move.mk_ HX1.out HX2.out) (fun _ h => h) (fun _ _ h => h) (fun _ h => h.elim) (by omega) (by omega) hwW ?_; intro v' w1 hown' hg _; have HO' := hide hown'; have HG := hide hg; clear hown' hg)
        first
          | (go_roundw; case rel => exact ⟨k + 1, by omega, by go_num, by rw [HT2.out]; exact HO'.out, (HBW.out.alloc (by omega) _).grown HG.out (by simp; omega) fun r e => (hoB r e).1⟩; case measure => simp [intOf]; omega)
          | exact ⟨⟨k + 1, by omega, by go_num, by rw [HT2.out]; exact HO'.out, (HBW.out.alloc (by omega) _).grown HG.out (by simp; omega) fun r e => (hoB r e).1⟩, by simp [intOf]; omega⟩
    · have hkn : k = n := by omega
      subst hkn
      have hlk : xs.take k = xs := List.take_of_length_le (by rw [HL.out]; exact Nat.le_refl _)
      rw [hlk] at HOQ
      obtain ⟨A', c', rfl⟩ := HOQ.out.form
      clear hsl
      go_wp2_with fail
      go_ret
      exact RetO.mk_ HOQ.out (fun _ h => h.elim) HBQ.out
/-- A set of places. -/
def setF (l : List Loc) : Loc → Option Int := fun p => if p ∈ l then some 1 else none
theorem setF_nil : setF [] = fun _ => none := by funext p; simp [setF]
theorem setF_snoc (l : List Loc) (x : Loc) : upd (setF l) x (some 1) = setF (l ++ [x]) := by
  funext p
  unfold upd setF
  by_cases h : p = x
  · simp [h]
  · simp [h]
theorem first_take {xs : List Move} {k : Nat} {x : Move} (h : xs[k]? = some x) : firstB (xs.take (k + 1)) = (firstB (xs.take k) && (okL x.src && okL x.dst) && !decide (x.dst ∈ (xs.take k).map Move.dst)) := by
  rw [take_at h]
  unfold firstB
  rw [List.all_append, List.map_append, Bool.eq_iff_iff]
  simp only [List.map_cons, List.map_nil, List.all_cons, List.all_nil, Bool.and_true, Bool.and_eq_true, decide_eq_true_eq, Bool.not_eq_true', decide_eq_false_iff_not, List.nodup_append]
  constructor
  · rintro ⟨⟨h1, h2⟩, h3, _, h4⟩
    exact ⟨⟨⟨h1, h3⟩, h2⟩, fun hm => h4 _ hm _ (by simp) rfl⟩
  · rintro ⟨⟨⟨h1, h3⟩, h2⟩, h4⟩
    exact ⟨⟨h1, h2⟩, h3, by simp, fun a ha b hb e => by simp at hb; subst hb; exact h4 (e ▸ ha)⟩
theorem first_pre {xs : List Move} {k : Nat} (h : firstB (xs.take k) = false) : firstB xs = false := by
  cases hf : firstB xs with
  | false => rfl
  | true =>
    unfold firstB at hf h
    simp only [Bool.and_eq_true, List.all_eq_true, decide_eq_true_eq] at hf
    have h1 : (xs.take k).all (fun m => okL m.src && okL m.dst) = true := by
      simp only [List.all_eq_true, Bool.and_eq_true]
      exact fun m hm => hf.1 m (List.mem_of_mem_take hm)
    have h2 : ((xs.take k).map Move.dst).Nodup := hf.2.sublist (List.Sublist.map _ (List.take_sublist _ _))
    rw [h1, decide_eq_true h2] at h
    cases h
theorem goesB_mem (l : List Move) (p : Loc) : goesB l p = decide (p ∈ l.map Move.src) := by
  rw [Bool.eq_iff_iff, goesB_iff]; simp
set_option maxRecDepth 100000 in
set_option maxHeartbeats 8000000 in
theorem sound_any (w : World) (S : Nat → Prop) (A : Option Addr) (n c : Nat) (xs : List Move) (h : Sl w S A n c xs) (hm : n ≤ 1048576) :
    Calls Try.prog 32 #[.slice A n c] w (RetX (.bool (soundM xs)) w) := by
  have HL := hide h.len
  have HS := hide (h.more (S' := fun _ => True) fun _ _ _ => trivial)
  clear h
  have hmm := @run_makeMap Try.prog
  obtain ⟨tb, htb⟩ : ∃ tb, w.heap.size = tb := ⟨_, rfl⟩
  go_enter Try.func32, Try.ntmps32
  go_wp2_with fail
  have HTB := hide (show CMap ((w.alloc (.map #[] 0)).alloc (.map #[] 0)) tb 0 (setF []) by rw [setF_nil, ← htb]; exact (MapP.made w).alloc _)
  have HFB := hide (show CMap ((w.alloc (.map #[] 0)).alloc (.map #[] 0)) (tb + 1) 0 (setF []) by rw [setF_nil, ← htb]; have h := MapP.made (K := locK) (E := cellE) (w.alloc (.map #[] 0)); simpa using h)
  have HB0 := hide (show Below w.heap.size w ((w.alloc (.map #[] 0)).alloc (.map #[] 0)) from ((Below.refl _ _).alloc (Nat.le_refl _) _).alloc (by simp) _)
  have HTW := hide htb
  clear htb hmm
  go_loopw [15] (fun i wr => ∃ k : Nat, k ≤ n ∧ i = .int .i64 k ∧ firstB (xs.take k) = true ∧ CMap wr tb k (setF ((xs.take k).map Move.dst)) ∧ CMap wr (tb + 1) 0 (setF []) ∧ Below w.heap.size w wr) (fun i _ => n - (intOf i).toNat)
  case atStart => exact ⟨0, Nat.zero_le _, rfl, rfl, HTB.out, HFB.out, HB0.out⟩
  clear HTB HFB HB0
  case round =>
    obtain ⟨k, hk, rfl, hfi, hmt, hmf, hbq⟩ := hrel
    have HFI := hide hfi; have HMT := hide hmt; have HMF := hide hmf; have HBQ := hide hbq
    have hwq := hbq.size
    clear hfi hmt hmf
    by_cases hlt : k < n
    · obtain ⟨b, off, x, rfl, hb, hx, hx1, hx2, c0, c1, c2, c3⟩ := at_Move (HS.out.belowAll hbq) hlt
      have HTK := hide (first_take hx)
      have HTA := hide (take_at hx)
      have HX1 := hide hx1; have HX2 := hide hx2
      have hki : (k : Int) < n := by omega
      clear hx hx1 hx2 hbq
      go_upto_region 5 with (fail)
      obtain ⟨g, hg⟩ : ∃ g, wr.heap.size = g := ⟨_, rfl⟩
      obtain ⟨W, hW⟩ : ∃ W, wr.alloc (.cells #[.bool x.src.slot, .int .i64 x.src.n, .bool x.dst.slot, .int .i64 x.dst.n] 42) = W := ⟨_, rfl⟩
      have hbW : Below wr.heap.size wr W := by rw [← hW]; exact (Below.refl _ _).alloc (Nat.le_refl _) _
      have hrow : W.heap[g]? = some (.cells #[.bool x.src.slot, .int .i64 x.src.n, .bool x.dst.slot, .int .i64 x.dst.n] 42 (0, 0)) := by
        rw [← hW, ← hg]; exact heap_alloc_new wr _
      have m0 : W.cell? ⟨g, 0, none⟩ = some (.bool x.src.slot) := cell_of_row W g _ _ _ (0, 0) hrow
      have m1 : W.cell? ⟨g, 1, none⟩ = some (.int .i64 x.src.n) := cell_of_row W g _ _ _ (0, 0) hrow
      have m2 : W.cell? ⟨g, 2, none⟩ = some (.bool x.dst.slot) := cell_of_row W g _ _ _ (0, 0) hrow
      have m3 : W.cell? ⟨g, 3, none⟩ = some (.int .i64 x.dst.n) := cell_of_row W g _ _ _ (0, 0) hrow
      have hgW : g < W.heap.size := by rw [← hW, ← hg]; simp
      have HBW := hide (HBQ.out.trans (hbW.mono hwq))
      have hwW := HBW.out.size
      have HMT2 := hide (HMT.out.keep (hbW.block tb HMT.out.lt)); have HMF2 := hide (HMF.out.keep (hbW.block (tb + 1) HMF.out.lt))
      rw [hW, hg]
      clear hW hbW hrow c0 c1 c2 c3 hg HMT HMF
      obtain ⟨b1, hb1⟩ : ∃ b, okL x.src = b := ⟨_, rfl⟩
      obtain ⟨b2, hb2⟩ : ∃ b, okL x.dst = b := ⟨_, rfl⟩
      have HO1 := hide (fun W => hb1 ▸ okp_any W x.src HX1.out)
      have HO2 := hide (fun W => hb2 ▸ okp_any W x.dst HX2.out)
      rw [hb1, hb2, HFI.out, Bool.true_and] at HTK
      clear hb1 hb2
      by_cases hin : x.dst ∈ (xs.take k).map Move.dst
      · rw [decide_eq_true hin] at HTK
        have HF := hide (first_pre (show firstB (xs.take (k + 1)) = false by rw [HTK.out]; simp))
        have hq : ∀ u u' : Ext, (Instr.lookup 100 (.map (some tb)) (.agg #[.bool x.dst.slot, .int .i64 x.dst.n]) false).run Try.prog ((W.ext u).ext u') = .ok (.int .i64 1) ((W.ext u).ext u') := fun u u' => by
          have h := MapP.get (K := locK) (E := cellE) ((HMT2.out.ext u).ext u') Try.underlying100 (x := x.dst) HX2.out
          have e : (setF ((xs.take k).map Move.dst) x.dst).getD cellE.zero = 1 := by unfold setF; rw [if_pos hin]; rfl
          rw [e] at h
          exact h
        clear hin
        cases b1 <;> cases b2
        all_goals
          go_wp2_with (first
            | (go_at_call 30; (with_reducible refine (HO1.out _).mono ?_); rintro e _ ⟨rfl, u1, rfl⟩)
            | (go_at_call 30; (with_reducible refine (HO2.out _).mono ?_); rintro e _ ⟨rfl, u2, rfl⟩))
          go_ret
          exact RetX.b (by unfold soundM; rw [HF.out]; rfl) (by first | exact HBW.out.ext hwW _ | exact (HBW.out.ext hwW _).ext (by rw [size_ext]; omega) _)
      · rw [decide_eq_false hin] at HTK
        have hq : ∀ u u' : Ext, (Instr.lookup 100 (.map (some tb)) (.agg #[.bool x.dst.slot, .int .i64 x.dst.n]) false).run Try.prog ((W.ext u).ext u') = .ok (.int .i64 0) ((W.ext u).ext u') := fun u u' => by
          have h := MapP.get (K := locK) (E := cellE) ((HMT2.out.ext u).ext u') Try.underlying100 (x := x.dst) HX2.out
          have e : (setF ((xs.take k).map Move.dst) x.dst).getD cellE.zero = 0 := by unfold setF; rw [if_neg hin]; rfl
          rw [e] at h
          exact h
        clear hin
        cases b1 <;> cases b2
        case true.true =>
          have HT2 := hide (show firstB (xs.take (k + 1)) = true by rw [HTK.out]; rfl)
          go_wp2_with (first
            | (go_at_call 30; (with_reducible refine (HO1.out _).mono ?_); rintro e _ ⟨rfl, u1, rfl⟩)
            | (go_at_call 30; (with_reducible refine (HO2.out _).mono ?_); rintro e _ ⟨rfl, u2, rfl⟩)
            | (refine wpList_put_map (K := locK) (E := cellE) rfl (.tmp 36) (.tmp 38) (.const (.int .i64 1)) 100 rfl Try.underlying100 rfl ((HMT2.out.ext u1).ext u2) (by unfold maxLen; omega) x.dst rfl HX2.out 1 rfl (by show InI 1; unfold InI; omega) ?_; intro w1 hm1 hg1; have HM1 := hide hm1; have HG1 := hide hg1; clear hm1 hg1))
          have HMN := hide (show CMap w1 tb (k + 1) (setF ((xs.take (k + 1)).map Move.dst)) by rw [HTA.out, List.map_append]; show MapP _ _ _ _ _ (setF ((xs.take k).map Move.dst ++ [x.dst])); rw [← setF_snoc]; exact HM1.out)
          have hlt1 := HMT2.out.lt
          have HFN := hide (show CMap w1 (tb + 1) 0 (setF []) from ((HMF2.out.ext u1).ext u2).kept HG1.out (by intro e; injection e with e; omega))
          have HBN := hide (show Below w.heap.size w w1 from ((HBW.out.ext hwW u1).ext (by rw [size_ext]; omega) u2).grown HG1.out (by simp only [size_ext]; omega) fun r e => by injection e with e; have := HTW.out; omega)
          first
            | (go_roundw; case rel => exact ⟨k + 1, by omega, by go_num, HT2.out, HMN.out, HFN.out, HBN.out⟩; case measure => simp [intOf]; omega)
            | exact ⟨⟨k + 1, by omega, by go_num, HT2.out, HMN.out, HFN.out, HBN.out⟩, by simp [intOf]; omega⟩
        all_goals
          have HF := hide (first_pre (show firstB (xs.take (k + 1)) = false by rw [HTK.out]; rfl))
          go_wp2_with (first
            | (go_at_call 30; (with_reducible refine (HO1.out _).mono ?_); rintro e _ ⟨rfl, u1, rfl⟩)
            | (go_at_call 30; (with_reducible refine (HO2.out _).mono ?_); rintro e _ ⟨rfl, u2, rfl⟩))
          go_ret
          exact RetX.b (by unfold soundM; rw [HF.out]; rfl) (by first | exact HBW.out.ext hwW _ | exact (HBW.out.ext hwW _).ext (by rw [size_ext]; omega) _)
    · have hkn : k = n := by omega
      subst hkn
      have hlk : xs.take k = xs := List.take_of_length_le (by rw [HL.out]; exact Nat.le_refl _)
      rw [hlk] at HFI HMT
      obtain ⟨bs, hbs⟩ : ∃ bs, busyM xs = bs := ⟨_, rfl⟩
      have hbl : bs.length ≤ k := by rw [← hbs]; have := busy_le xs; rw [HL.out] at this; exact this
      have HBU := hide (fun (W : World) (hb : Below w.heap.size w W) => hbs ▸ busy_any W _ A k c xs (HS.out.belowAll hb) hm)
      have HBS := hide hbs
      clear hlk hbs HMT
      go_wp2_with (go_at_call 11; (with_reducible refine (HBU.out wr HBQ.out).mono ?_); rintro e _ ⟨A2, n2, d2, S2, rfl, ho, hS, u2', rfl⟩; have HO := hide ho; have HSS := hide hS; clear ho hS; refine Hd.out ?_)
      obtain ⟨W2, hW2⟩ : ∃ W, wr.ext u2' = W := ⟨_, rfl⟩
      have hn2 : bs.length = n2 := by
        obtain ⟨_, _, e⟩ := HO.out.form
        injection e with _ e _
        exact e.symm
      have hfl := HMF.out.lt
      have HS2 := hide (show Sl W2 (fun b => tb + 1 < b) A2 n2 d2 bs by rw [← hW2]; exact HO.out.sl fun b _ h => h.elim (fun h => by have := (HSS.out b h).1; omega) fun h => by omega)
      have HB2 := hide (show Below w.heap.size w W2 by rw [← hW2]; exact hbq.ext hwq u2')
      have HM2 := hide (show CMap W2 (tb + 1) 0 (setF []) by rw [← hW2]; exact HMF.out.ext u2')
      rw [hW2]
      have hw2 := HB2.out.size
      rw [hn2] at hbl
      have HN2 := hide hn2
      clear hW2 HO HSS HMF HBQ hbq hwq hn2 hfl
      refine hide ?_
      go_wp2_with fail
      go_loopw [43] (fun i wr => ∃ k : Nat, k ≤ n2 ∧ i = .int .i64 k ∧ CMap wr (tb + 1) k (setF ((bs.take k).map Move.src)) ∧ Below w.heap.size w wr ∧ Sl wr (fun b => tb + 1 < b) A2 n2 d2 bs) (fun i _ => n2 - (intOf i).toNat)
      case atStart => exact ⟨0, Nat.zero_le _, rfl, HM2.out, HB2.out, HS2.out⟩
      clear HM2 HB2 HS2 hw2
      case round =>
        obtain ⟨j, hj, rfl, hmf, hbq, hsb⟩ := hrel
        have HMF := hide hmf; have HBQ := hide hbq; have HSB := hide hsb
        have hwq := hbq.size
        clear hmf hbq
        by_cases hlt2 : j < n2
        · obtain ⟨b, off, x, rfl, hb, hx, hx1, hx2, c0, c1, c2, c3⟩ := at_Move hsb hlt2
          have HTA := hide (take_at hx)
          have HX1 := hide hx1
          have hji : (j : Int) < n2 := by omega
          have hmfl := HMF.out.lt
          have HSA := hide (hsb.alloc (.cells #[.bool x.src.slot, .int .i64 x.src.n, .bool x.dst.slot, .int .i64 x.dst.n] 42))
          clear hx hx1 hx2 hsb
          go_wp2_with (refine wpList_put_map (K := locK) (E := cellE) rfl (.tmp 47) (.tmp 49) (.const (.int .i64 1)) 100 rfl Try.underlying100 rfl (HMF.out.alloc _) (by unfold maxLen; omega) x.src rfl HX1.out 1 rfl (by show InI 1; unfold InI; omega) ?_; intro w1 hm1 hg1; have HM1 := hide hm1; have HG1 := hide hg1; clear hm1 hg1)
          have HMN := hide (show CMap w1 (tb + 1) (j + 1) (setF ((bs.take (j + 1)).map Move.src)) by rw [HTA.out, List.map_append]; show MapP _ _ _ _ _ (setF ((bs.take j).map Move.src ++ [x.src])); rw [← setF_snoc]; exact HM1.out)
          have HBN := hide (show Below w.heap.size w w1 from (HBQ.out.alloc hwq _).grown HG1.out (by simp; omega) fun r e => by injection e with e; have := HTW.out; omega)
          have HSN := hide (show Sl w1 (fun b => tb + 1 < b) (some ⟨b, off, none⟩) n2 d2 bs from HSA.out.keep HG1.out.size fun b hb hl => HG1.out.block b hl (by intro e; injection e with e; omega))
          first
            | (go_roundw; case rel => exact ⟨j + 1, by omega, by go_num, HMN.out, HBN.out, HSN.out⟩; case measure => simp [intOf]; omega)
            | exact ⟨⟨j + 1, by omega, by go_num, HMN.out, HBN.out, HSN.out⟩, by simp [intOf]; omega⟩
        · have hjn : j = n2 := by omega
          subst hjn
          have hlk : bs.take j = bs := List.take_of_length_le (by rw [HN2.out]; exact Nat.le_refl _)
          rw [hlk] at HMF
          clear hlk hsb HSB
          go_wp2_with (go_at_call 11; (with_reducible refine (HBU.out wr HBQ.out).mono ?_); rintro e _ ⟨A3, n3, d3, S3, rfl, ho, hS, u3', rfl⟩; have HO := hide ho; clear ho hS; refine Hd.out ?_)
          obtain ⟨W3, hW3⟩ : ∃ W, wr.ext u3' = W := ⟨_, rfl⟩
          have hn3 : n3 = j := by
            obtain ⟨_, _, e⟩ := HO.out.form
            injection e with _ e _
            rw [e, HN2.out]
          subst hn3
          have HS3 := hide (show Sl W3 (fun _ => True) A3 n3 d3 bs by rw [← hW3]; exact HO.out.sl fun _ _ _ => trivial)
          have HB3 := hide (show Below w.heap.size w W3 by rw [← hW3]; exact HBQ.out.ext hwq u3')
          have HM3 := hide (show CMap W3 (tb + 1) n3 (setF (bs.map Move.src)) by rw [← hW3]; exact HMF.out.ext u3')
          rw [hW3]
          have hw3 := HB3.out.size
          clear hW3 HO HMF HBQ hwq HBU
          refine hide ?_
          go_wp2_with fail
          go_loopw [54] (fun i wr => ∃ k : Nat, k ≤ n3 ∧ i = .int .i64 k ∧ (bs.take k).all (slotB bs) = true ∧ ∃ u : Ext, wr = W3.ext u) (fun i _ => n3 - (intOf i).toNat)
          case atStart => exact ⟨0, Nat.zero_le _, rfl, rfl, ext_refl _⟩
          case round =>
            obtain ⟨j, hj, rfl, hal, u, rfl⟩ := hrel
            have HAL := hide hal
            clear hal
            have hwq : W3.heap.size ≤ (W3.ext u).heap.size := by rw [size_ext]; omega
            by_cases hlt3 : j < n3
            · obtain ⟨b, off, x, rfl, hb, hx, hx1, hx2, c0, c1, c2, c3⟩ := at_Move (HS3.out.ext u) hlt3
              have HTA := hide (take_at hx)
              have HX2 := hide hx2
              have hji : (j : Int) < n3 := by omega
              have hq : ∀ o : Obj, (Instr.lookup 100 (.map (some (tb + 1))) (.agg #[.bool x.dst.slot, .int .i64 x.dst.n]) false).run Try.prog ((W3.ext u).alloc o) = .ok (.int .i64 (if goesB bs x.dst = true then 1 else 0)) ((W3.ext u).alloc o) := fun o => by
                have h := MapP.get (K := locK) (E := cellE) ((HM3.out.ext u).alloc o) Try.underlying100 (x := x.dst) HX2.out
                have e : (setF (bs.map Move.src) x.dst).getD cellE.zero = if goesB bs x.dst = true then 1 else 0 := by
                  rw [goesB_mem]; unfold setF
                  by_cases hm : x.dst ∈ bs.map Move.src
                  · rw [if_pos hm, if_pos (by simpa using hm)]; rfl
                  · rw [if_neg hm, if_neg (by simpa using hm)]; rfl
                rw [e] at h
                exact h
              have HAN := hide (show (bs.take (j + 1)).all (slotB bs) = slotB bs x by rw [HTA.out, List.all_append, HAL.out]; simp)
              obtain ⟨s1, hs1⟩ : ∃ s, x.dst.slot = s := ⟨_, rfl⟩
              obtain ⟨s2, hs2⟩ : ∃ s, x.src.slot = s := ⟨_, rfl⟩
              obtain ⟨q, hgq⟩ : ∃ q, goesB bs x.dst = q := ⟨_, rfl⟩
              have HBX := hide (show slotB bs x = !(s1 && (s2 || q)) by unfold slotB; rw [hs1, hs2, hgq])
              rw [hs1, hgq] at hq
              rw [hs1] at c2
              rw [hs2] at c0
              clear hx hx1 hx2 hs1 hs2 hgq HTA HAL
              cases s1 <;> cases s2 <;> cases q
              all_goals
                simp only [Bool.false_eq_true, if_true, if_false] at hq
                go_wp2_with fail
                first
                  | (go_ret; exact RetX.b (by
                      have h1 : slotB bs x = false := HBX.out
                      have h2 : (bs.take (j + 1)).all (slotB bs) = false := HAN.out.trans h1
                      have h3 : bs.all (slotB bs) = false := by
                        rw [← List.take_append_drop (j + 1) bs, List.all_append]
                        rw [show (bs.take (j + 1)).all (slotB (bs.take (j + 1) ++ bs.drop (j + 1))) = false by rw [List.take_append_drop]; exact h2]
                        rfl
                      unfold soundM
                      rw [HBS.out, h3, Bool.and_false]) (by have h := HB3.out.ext hw3 u; exact h.alloc (by rw [size_ext]; omega) _))
                  | (go_roundw; case rel => exact ⟨j + 1, by omega, by go_num, by rw [HAN.out, HBX.out]; rfl, by obtain ⟨v, hv⟩ := ext_alloc (W3.ext u) (.cells #[.bool false, .int .i64 x.src.n, .bool false, .int .i64 x.dst.n] 42); exact Below.to_ext (((Below.refl _ _).ext (Nat.le_refl _) u).alloc (by rw [size_ext]; omega) _)⟩; case measure => simp [intOf]; omega)
                  | exact ⟨⟨j + 1, by omega, by go_num, by rw [HAN.out, HBX.out]; rfl, Below.to_ext (((Below.refl _ _).ext (Nat.le_refl _) u).alloc (by rw [size_ext]; omega) _)⟩, by simp [intOf]; omega⟩
            · have hjn : j = n3 := by omega
              subst hjn
              have hlk : bs.take j = bs := List.take_of_length_le (by rw [HN2.out]; exact Nat.le_refl _)
              rw [hlk] at HAL
              clear hlk
              go_wp2_with fail
              go_ret
              exact RetX.b (by unfold soundM; rw [HBS.out, HAL.out, HFI.out]; rfl) (HB3.out.ext hw3 u)
end Go.Proofs.Ytoghikagooegbaa
