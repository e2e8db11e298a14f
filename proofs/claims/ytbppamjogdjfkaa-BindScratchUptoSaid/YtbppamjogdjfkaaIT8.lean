/- law24: walk: what a color would like. -/
import Derived.Test.YtbppamjogdjfkaaIT7
import Derived.Test.YtbppamjogdjfkaaNF
set_option linter.unusedSimpArgs false
set_option linter.unusedVariables false
namespace Go.Proofs.Ytbppamjogdjfkaa
open Go.RowKit Go.Shelf Go.Maps
attribute [local go_sem] Oper.semAt_some

section
variable {P : Program} {ops : Array Oper} {R : World → World → Prop} {w0 : World} {G0 : World → Prop} {Ws : List Nat} {an : List (List Nat)} {Q : Act → World → Prop} {o : Oper} {rest : List Oper} {k : Nat} {a : Act} {H : List HeldP}
theorem flowQ_knownE (hms : (maskOf ops o H).all (! ·) = true)
    (h : ∀ K : Act → Prop, (∀ a, FlowQ P ops R (extF w0) G0 an Ws Q rest (k + 1) a H → K a) → ∃ c, (∀ u : Ext, KnownAt P ops o a c (w0.ext u)) ∧ K (a.put o.dst c)) : FlowQ P ops R (extF w0) G0 an Ws Q (o :: rest) k a H := by
  obtain ⟨c, h1, h2⟩ := h _ fun _ h => h
  exact .inl ⟨c, fun w hw => useH_none (by obtain ⟨u, rfl⟩ := hw.1; exact h1 u) _ _ hms, h2⟩
end
/-- A part that is bound, its parent, as they lie. -/
structure WEnv (W : World) (S : Nat → Prop) (g : Nat) (p : Part) (mr mh : Nat) (par : Option Nat) (N : Nat) (acc : List (Int × Int)) (parF : Int → Int) : Prop where
  bd : BdAt W S g p mr mh par N acc
  lc : p.colors.length = p.vars.length
  lw : p.wish.length = p.vars.length
  lv : p.vars.length ≤ 1048576
  vr : p.vars.Pairwise (· < ·)
  sl : ∀ b, S b → b < W.heap.size
  par : (par = none ∧ parF = fun _ => -1) ∨ ∃ gp q mr' mh' par' N' acc', par = some gp ∧ BdAt W S gp q mr' mh' par' N' acc' ∧ q.vars.Pairwise (· < ·) ∧ q.colors.length = q.vars.length ∧ q.vars.length ≤ 1048576 ∧ (∀ c ∈ q.colors, InI c) ∧ parF = fun v => regOf24 q.vars q.colors acc' v
theorem BdAt.look_in {W : World} {S : Nat → Prop} {g : Nat} {p : Part} {mr mh : Nat} {par : Option Nat} {N : Nat} {acc : List (Int × Int)} (h : BdAt W S g p mr mh par N acc) (v : Int) : InI (regOf24 p.vars p.colors acc v) := by
  have key : ∀ vs cs : List Int, InI (regOf24 vs cs acc v) := by
    intro vs
    induction vs with
    | nil => intro cs; unfold regOf24; unfold InI; omega
    | cons x vs ih =>
      intro cs
      cases cs with
      | nil => unfold regOf24; unfold InI; omega
      | cons c cs =>
        unfold regOf24
        split
        · split
          · unfold InI; omega
          · exact MapP.getD_good (K := iK) (E := iE) h.regs c
        · exact ih cs
  exact key _ _
theorem WEnv.parIn {W : World} {S : Nat → Prop} {g : Nat} {p : Part} {mr mh : Nat} {par : Option Nat} {N : Nat} {acc : List (Int × Int)} {parF : Int → Int} (E : WEnv W S g p mr mh par N acc parF) (v : Int) : InI (parF v) := by
  rcases E.par with ⟨_, h⟩ | ⟨gp, q, mr', mh', par', N', acc', _, hb, _, _, _, _, h⟩
  · rw [h]; show InI (-1); unfold InI; omega
  · rw [h]; exact hb.look_in v
/-- The parent's register of a variable. -/
theorem WEnv.parReg {W W' : World} {S : Nat → Prop} {g : Nat} {p : Part} {mr mh : Nat} {par : Option Nat} {N : Nat} {acc : List (Int × Int)} {parF : Int → Int} (E : WEnv W S g p mr mh par N acc parF) (hk : KeepX (fun b => b < W.heap.size) W W') (v : Int) :
    Calls Try.prog 21 #[.pointer (par.map fun b => ⟨b, 0, none⟩), .int .i64 v] W' (RetX (.int .i64 (parF v)) W') := by
  rcases E.par with ⟨h0, h⟩ | ⟨gp, q, mr', mh', par', N', acc', h0, hb, h1, h2, h3, h4, h⟩
  · rw [h, h0]; exact regNil24 W' v
  · rw [h, h0]
    exact reg24_any W' S gp q mr' mh' par' N' acc' (hb.keep hk.size (hk.block _ hb.lt) (hk.block _ hb.regs.lt) fun b hS _ => hk.block b (E.sl b hS)) h1 h2 h3 h4 v
def part1 (p : Part) (parF : Int → Int) (color : Int) (k : Nat) : List Int := (((p.vars.zip p.colors).take k).filter fun y => decide (y.2 = color)).map fun x => parF x.1
def part2 (p : Part) (color : Int) (k : Nat) : List Int := (((p.wish.zip p.colors).take k).filter fun y => decide (y.2 = color)).map fun x => x.1
theorem part1_len (p : Part) (parF : Int → Int) (color : Int) (k : Nat) : (part1 p parF color k).length ≤ k := by
  unfold part1; rw [List.length_map]; exact Nat.le_trans (List.length_filter_le _ _) (by rw [List.length_take]; omega)
theorem part2_len (p : Part) (color : Int) (k : Nat) : (part2 p color k).length ≤ k := by
  unfold part2; rw [List.length_map]; exact Nat.le_trans (List.length_filter_le _ _) (by rw [List.length_take]; omega)
theorem wishes_parts {p : Part} (parF : Int → Int) (color : Int) (hl : p.colors.length = p.vars.length) (hw : p.wish.length = p.vars.length) : wishes24 p parF color = part1 p parF color p.vars.length ++ part2 p color p.vars.length := by
  unfold wishes24 part1 part2
  rw [List.take_of_length_le (by rw [List.length_zip]; omega), List.take_of_length_le (by rw [List.length_zip]; omega)]
theorem part1_step {p : Part} (parF : Int → Int) (color : Int) {k : Nat} {v c : Int} (hv : p.vars[k]? = some v) (hc : p.colors[k]? = some c) : part1 p parF color (k + 1) = part1 p parF color k ++ (if c = color then [parF v] else []) :=
  wishes_step24 (α := Int) (fun x => parF x.1) color (x := (v, c)) (by rw [List.getElem?_zip_eq_some]; exact ⟨hv, hc⟩)
theorem part2_step {p : Part} (color : Int) {k : Nat} {v c : Int} (hv : p.wish[k]? = some v) (hc : p.colors[k]? = some c) : part2 p color (k + 1) = part2 p color k ++ (if c = color then [v] else []) :=
  wishes_step24 (α := Int) (fun x => x.1) color (x := (v, c)) (by rw [List.getElem?_zip_eq_some]; exact ⟨hv, hc⟩)
theorem part1_pre (p : Part) (parF : Int → Int) (color : Int) {k m : Nat} (h : k ≤ m) : part1 p parF color k <+: part1 p parF color m := by
  unfold part1
  refine List.IsPrefix.map _ (List.IsPrefix.filter _ ?_)
  exact List.take_prefix_take_left h
theorem part2_pre (p : Part) (color : Int) {k m : Nat} (h : k ≤ m) : part2 p color k <+: part2 p color m := by
  unfold part2
  refine List.IsPrefix.map _ (List.IsPrefix.filter _ ?_)
  exact List.take_prefix_take_left h
set_option maxRecDepth 100000 in
set_option maxHeartbeats 4000000 in
theorem wishes1_in (n : Nat) (hn : 1 ≤ n) (l Bb Bc : Nat) (X S : Nat → Prop) (w1 : World) (g : Nat) (p : Part) (mr mh : Nat) (par : Option Nat) (N : Nat) (acc : List (Int × Int)) (parF : Int → Int) (E : WEnv w1 S g p mr mh par N acc parF) (color : Int)
    (hX1 : ∀ b, b < w1.heap.size → X b) (hXb : X Bb) (hXc : X Bc) (J Jx : List ZI → World → Prop)
    (hY : ∀ pre x W, J pre W → pre.length < p.vars.length + p.vars.length → YieldAt Fence.wide (n - 1) Try.prog l (encZI x) W fun e W' =>
      (e = .returned (.bool true) ∧ J (pre ++ [x]) W' ∧ KeepX X W W') ∨ (e = .returned (.bool false) ∧ Jx (pre ++ [x]) W'))
    (W : World) (hXW : ∀ b, X b → b < W.heap.size) (hJ : AbidesFrom W.heap.size J) (hb : W.heap[Bb]? = some (.cells #[.pointer (some ⟨g, 0, none⟩)] 45 (0, 0))) (hc : W.heap[Bc]? = some (.cells #[.int .i64 color] 3 (0, 0))) (hw1 : KeepX (fun b => b < w1.heap.size) w1 W) (h0 : J [] W) :
    CallsIn Fence.wide n Try.prog 44 #[.func (.yield l) #[] #[], .pointer (some ⟨Bb, 0, none⟩), .pointer (some ⟨Bc, 0, none⟩)] W fun e W' => (∃ v, e = .returned v) ∧
      ((∃ ys, unZ ys = wishes24 p parF color ∧ J ys W') ∨ (∃ pre, unZ pre <+: wishes24 p parF color ∧ Jx pre W')) := by
  obtain ⟨A1, c1, A2, c2, A3, c3, hrow, s1, s2, s3⟩ := E.bd.row
  rw [E.lc] at hrow s2
  rw [E.lw] at hrow s3
  obtain ⟨m, hm⟩ : ∃ m, p.vars.length = m := ⟨_, rfl⟩
  rw [hm] at hrow s1 s2 s3 hY
  have hml : m ≤ 1048576 := by rw [← hm]; exact E.lv
  have HE := hide E
  have HROW := hide hrow; have HS1 := hide s1; have HS2 := hide s2; have HS3 := hide s3
  have HBB := hide hb; have HBC := hide hc; have HW1 := hide hw1; have HM := hide hm; have HJ := hide hJ
  have HPS := hide (wishes_parts parF color E.lc E.lw)
  rw [HPS.out, hm]
  obtain ⟨pv, hpv⟩ : ∃ pv : Option Addr, (par.map fun b : Nat => (⟨b, 0, none⟩ : Addr)) = pv := ⟨_, rfl⟩
  rw [hpv] at HROW
  have HPR := hide (fun (W' : World) (hk : KeepX (fun b => b < w1.heap.size) w1 W') (v : Int) => (show Calls Try.prog 21 #[.pointer pv, .int .i64 v] W' (RetX (.int .i64 (parF v)) W') from hpv ▸ E.parReg hk v))
  have hgl1 := E.bd.lt
  have hSl := E.sl
  have HSX := hide (fun b (h : S b) => hX1 b (hSl b h))
  -- a world with blocks more
  have HXE := hide (fun (wr : World) (hs : W.heap.size ≤ wr.heap.size) (u : Ext) => (⟨by rw [size_ext]; omega, fun b hb' => ext_block wr u b (by have := hXW b hb'; omega)⟩ : KeepX X wr (wr.ext u)))
  have HJE := hide (fun (pre : List ZI) (wr : World) (u : Ext) (h : J pre wr) => hJ pre wr (wr.ext u) none h ⟨rfl, rfl, rfl, by rw [size_ext]; omega, fun b hb' _ => ext_block wr u b hb'⟩ (fun _ e => by cases e))
  -- what is read in a later world
  have HRD := hide (fun (W' : World) (hk : KeepX X W W') => by
    have e1 : W'.heap[g]? = _ := (hk.block g (hX1 g hgl1)).trans ((hw1.block g hgl1).trans HROW.out)
    have e2 := (hk.block Bb hXb).trans hb
    have e3 := (hk.block Bc hXc).trans hc
    exact (⟨cell_of_row W' g _ _ _ (0, 0) e1, cell_of_row W' g _ _ _ (0, 0) e1, cell_of_row W' g _ _ _ (0, 0) e1, cell_of_row W' g _ _ _ (0, 0) e1, cell_of_row W' Bb _ _ _ (0, 0) e2, cell_of_row W' Bc _ _ _ (0, 0) e3, (Array.getElem?_eq_some_iff.1 e1).1, (Array.getElem?_eq_some_iff.1 e2).1, (Array.getElem?_eq_some_iff.1 e3).1⟩ :
      W'.cell? ⟨g, 1, none⟩ = some (.slice A1 m c1) ∧ W'.cell? ⟨g, 2, none⟩ = some (.slice A2 m c2) ∧ W'.cell? ⟨g, 3, none⟩ = some (.slice A3 m c3) ∧ W'.cell? ⟨g, 6, none⟩ = some (.pointer pv) ∧ W'.cell? ⟨Bb, 0, none⟩ = some (.pointer (some ⟨g, 0, none⟩)) ∧ W'.cell? ⟨Bc, 0, none⟩ = some (.int .i64 color) ∧ g < W'.heap.size ∧ Bb < W'.heap.size ∧ Bc < W'.heap.size))
  obtain ⟨k1, k2, k3, k6, kb, kc, hg, hBb, hBc⟩ := HRD.out W (KeepX.refl _ _)
  clear hrow s1 s2 s3 hb hc hw1 hm hpv hJ E hgl1 hSl
  refine callsIn_of_wp Try.func44 rfl trivial ?_ rfl
  simp only [Try.ntmps44, List.size_toArray, List.length_cons, List.length_nil, Nat.reduceAdd, Nat.reduceSub, Array.replicate_succ, Array.replicate_zero, List.push_toArray, List.append_toArray, List.nil_append, List.cons_append]
  gi_wp2
  gi_loopw [14] (fun i wr => ∃ (k : Nat) (pre : List ZI), k ≤ m ∧ i = .int .i64 k ∧ unZ pre = part1 p parF color k ∧ J pre wr ∧ KeepX X W wr)
    (fun i _ => m - (Go.RowKit.intOf i).toNat)
  case atStart => exact ⟨0, [], Nat.zero_le _, rfl, rfl, h0, KeepX.refl _ _⟩
  case round =>
    obtain ⟨k, pre, hk, rfl, hpre, hJs, hkw⟩ := hrel
    obtain ⟨k1, k2, k3, k6, kb, kc, hg, hBb, hBc⟩ := HRD.out wr hkw
    have HKW := hide hkw; have HPRE := hide hpre
    have hw1r : KeepX (fun b => b < w1.heap.size) w1 wr := HW1.out.trans ⟨hkw.size, fun b hb => hkw.block b (hX1 b hb)⟩
    have S1 := HS1.out.keep (w' := wr) hw1r.size (fun b hb hl => hw1r.block b hl)
    have S2 := HS2.out.keep (w' := wr) hw1r.size (fun b hb hl => hw1r.block b hl)
    have HW1R := hide hw1r
    have hlp : pre.length ≤ k := by
      have := congrArg List.length hpre
      rw [List.length_map] at this
      rw [this]; exact part1_len p parF color k
    clear hkw hpre hw1r
    by_cases hlt : k < m
    · obtain ⟨g1, o1, v, rfl, hb1, hv, hvi, d1⟩ := at_int S1 hlt
      obtain ⟨g2, o2, c, rfl, hb2, hcc, hci, d2⟩ := at_int S2 hlt
      have HSTEP := hide (part1_step parF color hv hcc)
      clear hv hcc hvi hci S1 S2
      have hws := HKW.out.size
      have HPV := hide (fun u : Ext => HPR.out (wr.ext u) (HW1R.out.trans ⟨by rw [size_ext]; omega, fun b hb' => ext_block wr u b (by have := HW1R.out.size; omega)⟩) v)
      by_cases hcol : c = color
      · have hcb : (c == color) = true := by simpa using hcol
        have hst : part1 p parF color (k + 1) = part1 p parF color k ++ [parF v] := by rw [HSTEP.out, if_pos hcol]
        have HST := hide hst
        clear hst HSTEP
        gi_wp2
        refine wp_region_Q_tail (fun _ _ => True) (extF wr) (extF wr) [] 18 (by kernel_rfl) rfl (by kernel_rfl) (by kernel_rfl) (by kernel_rfl) (fun _ _ _ => trivial) (fun _ u ⟨x, hx⟩ => by rw [hx]; exact ext_ext wr x u) (fun _ u ⟨x, hx⟩ => by rw [hx]; exact ext_ext wr x u) (ext_drew wr) (ext_drew wr) ?_
        simp only [List.take_succ_cons, List.take_zero, List.drop_succ_cons, List.drop_zero]
        repeat (refine flowQ_knownE (by kernel_rfl) (fun K hK => ?_); go_simp; (first | (refine hK _ ?_; clear hK K) | (apply Exists.intro; refine ⟨fun _ => ?_, hK _ ?_⟩; ((go_at_call 21; exact HPV.out _)); clear hK K)))
        refine flowQ_done [] (by kernel_rfl) (fun w' hw' => ?_)
        simp only [List.nil_append, List.cons_append, endH_f, endH_t, endH_nil]
        obtain ⟨u, rfl⟩ := hw'
        obtain ⟨x, hx⟩ : ∃ x : ZI, x.1 = parF v := ⟨⟨parF v, HE.out.parIn v⟩, rfl⟩
        have hjq := HJE.out pre wr u hJs
        have hkq := HKW.out.trans (HXE.out wr hws u)
        obtain ⟨Wq, hWq⟩ : ∃ Wq, wr.ext u = Wq := ⟨_, rfl⟩
        rw [hWq] at hjq hkq ⊢
        clear hWq
        have hyx := hY pre x Wq hjq (by omega)
        rw [show encZI x = #[.int .i64 (parF v)] by unfold encZI; rw [hx]] at hyx
        obtain ⟨fn, tmps, assign, body, hy, hR⟩ := hyx
        have HX := hide hx; have HKQ := hide hkq
        clear hx hkq hjq k1 k2 k3 k6 kb kc hg hBb hBc d1 d2
        go_simp
        gi_wp2
        refine hR.mono ?_
        rintro e W3 (⟨rfl, hJ3, hk3⟩ | ⟨rfl, hJx3⟩)
        · gi_wp2
          go_roundw
          case rel => exact ⟨k + 1, pre ++ [x], by omega, by go_num, by rw [HST.out, ← HPRE.out, ← HX.out]; simp, hJ3, HKQ.out.trans hk3⟩
          case measure => simp [Go.RowKit.intOf]; omega
        · gi_wp2
          refine bodyPost_ret (results_none rfl _ _ _) rfl ?_
          refine ⟨⟨_, rfl⟩, .inr ⟨_, ?_, hJx3⟩⟩
          have e : unZ (pre ++ [x]) = part1 p parF color (k + 1) := by rw [HST.out, ← HPRE.out, ← HX.out]; simp
          rw [e]
          exact (part1_pre p parF color (by omega)).trans (List.prefix_append _ _)
      · have hcb : (c == color) = false := by simpa using hcol
        have hst : part1 p parF color (k + 1) = part1 p parF color k := by rw [HSTEP.out, if_neg hcol, List.append_nil]
        have HST := hide hst
        clear hst HSTEP
        gi_wp2
        refine wpIn_wide.2 ?_
        refine wp_region_ext (by kernel_rfl) (by kernel_rfl) ?_
        repeat (any_goals (first | go_big_quiet_step ((fail)) | quiet_step ((fail))))
        refine wpQuiet_nil ?_
        rintro _ ⟨uq, rfl⟩
        gi_wp2
        go_roundw
        case rel => exact ⟨k + 1, pre, by omega, by go_num, by rw [HST.out]; exact HPRE.out, HJE.out pre wr uq hJs, HKW.out.trans (HXE.out wr hws uq)⟩
        case measure => simp [Go.RowKit.intOf]; omega
    · obtain rfl : k = m := by omega
      have HP1 := hide (show unZ pre = part1 p parF color k from HPRE.out)
      have HKW0 := HKW
      clear HPRE S1 S2
      gi_wp2
      clear k1 k2 k3 k6 kb kc hg hBb hBc
      gi_loopw [47] (fun i wr => ∃ (j : Nat) (pre : List ZI), j ≤ k ∧ i = .int .i64 j ∧ unZ pre = part1 p parF color k ++ part2 p color j ∧ J pre wr ∧ KeepX X W wr)
        (fun i _ => k - (Go.RowKit.intOf i).toNat)
      case atStart => exact ⟨0, pre, Nat.zero_le _, rfl, by rw [HP1.out]; simp [part2], hJs, HKW.out⟩
      clear hJs HKW HW1R HP1 HKW0
      case round =>
        obtain ⟨j, pre, hj, rfl, hpre, hJs, hkw⟩ := hrel
        obtain ⟨k1, k2, k3, k6, kb, kc, hg, hBb, hBc⟩ := HRD.out wr hkw
        have HKW := hide hkw; have HPRE := hide hpre
        have hw1r : KeepX (fun b => b < w1.heap.size) w1 wr := HW1.out.trans ⟨hkw.size, fun b hb => hkw.block b (hX1 b hb)⟩
        have S2 := HS2.out.keep (w' := wr) hw1r.size (fun b hb hl => hw1r.block b hl)
        have S3 := HS3.out.keep (w' := wr) hw1r.size (fun b hb hl => hw1r.block b hl)
        have hlp : pre.length ≤ k + j := by
          have := congrArg List.length hpre
          rw [List.length_map, List.length_append] at this
          have := part1_len p parF color k
          have := part2_len p color j
          omega
        have hws := hkw.size
        clear hkw hpre hw1r
        by_cases hlt : j < k
        · obtain ⟨g3, o3, v, rfl, hb3, hv, hvi, d3⟩ := at_int S3 hlt
          obtain ⟨g2, o2, c, rfl, hb2, hcc, hci, d2⟩ := at_int S2 hlt
          have HSTEP := hide (part2_step color hv hcc)
          have HVI := hide hvi
          clear hv hcc hvi hci S3 S2
          by_cases hcol : c = color
          · have hcb : (c == color) = true := by simpa using hcol
            have hst : part2 p color (j + 1) = part2 p color j ++ [v] := by rw [HSTEP.out, if_pos hcol]
            have HST := hide hst
            clear hst HSTEP
            gi_wp2
            refine wp_region_Q_tail (fun _ _ => True) (extF wr) (extF wr) [] 13 (by kernel_rfl) rfl (by kernel_rfl) (by kernel_rfl) (by kernel_rfl) (fun _ _ _ => trivial) (fun _ u ⟨x, hx⟩ => by rw [hx]; exact ext_ext wr x u) (fun _ u ⟨x, hx⟩ => by rw [hx]; exact ext_ext wr x u) (ext_drew wr) (ext_drew wr) ?_
            simp only [List.take_succ_cons, List.take_zero, List.drop_succ_cons, List.drop_zero]
            repeat (refine flowQ_knownE (by kernel_rfl) (fun K hK => ?_); go_simp; (first | (refine hK _ ?_; clear hK K) | (apply Exists.intro; refine ⟨fun _ => ?_, hK _ ?_⟩; (fail); clear hK K)))
            refine flowQ_done [] (by kernel_rfl) (fun w' hw' => ?_)
            simp only [List.nil_append, List.cons_append, endH_f, endH_t, endH_nil]
            obtain ⟨u, rfl⟩ := hw'
            obtain ⟨x, hx⟩ : ∃ x : ZI, x.1 = v := ⟨⟨v, HVI.out⟩, rfl⟩
            have hjq := HJE.out pre wr u hJs
            have hkq := HKW.out.trans (HXE.out wr hws u)
            obtain ⟨Wq, hWq⟩ : ∃ Wq, wr.ext u = Wq := ⟨_, rfl⟩
            rw [hWq] at hjq hkq ⊢
            clear hWq
            have hyx := hY pre x Wq hjq (by omega)
            rw [show encZI x = #[.int .i64 (v)] by unfold encZI; rw [hx]] at hyx
            obtain ⟨fn, tmps, assign, body, hy, hR⟩ := hyx
            have HX := hide hx; have HKQ := hide hkq
            clear hx hkq hjq k1 k2 k3 k6 kb kc hg hBb hBc d3 d2
            go_simp
            gi_wp2
            refine hR.mono ?_
            rintro e W3 (⟨rfl, hJ3, hk3⟩ | ⟨rfl, hJx3⟩)
            · gi_wp2
              go_roundw
              case rel => exact ⟨j + 1, pre ++ [x], by omega, by go_num, by rw [HST.out, ← List.append_assoc, ← HPRE.out, ← HX.out]; simp, hJ3, HKQ.out.trans hk3⟩
              case measure => simp [Go.RowKit.intOf]; omega
            · gi_wp2
              refine bodyPost_ret (results_none rfl _ _ _) rfl ?_
              refine ⟨⟨_, rfl⟩, .inr ⟨_, ?_, hJx3⟩⟩
              have e : unZ (pre ++ [x]) = part1 p parF color k ++ part2 p color (j + 1) := by rw [HST.out, ← List.append_assoc, ← HPRE.out, ← HX.out]; simp
              rw [e]
              exact (List.prefix_append_right_inj _).2 (part2_pre p color (by omega))
          · have hcb : (c == color) = false := by simpa using hcol
            have hst : part2 p color (j + 1) = part2 p color j := by rw [HSTEP.out, if_neg hcol, List.append_nil]
            have HST := hide hst
            clear hst HSTEP
            gi_wp2
            refine wpIn_wide.2 ?_
            refine wp_region_ext (by kernel_rfl) (by kernel_rfl) ?_
            repeat (any_goals (first | go_big_quiet_step ((fail)) | quiet_step ((fail))))
            refine wpQuiet_nil ?_
            rintro _ ⟨uq, rfl⟩
            gi_wp2
            go_roundw
            case rel => exact ⟨j + 1, pre, by omega, by go_num, by rw [HST.out]; exact HPRE.out, HJE.out pre wr uq hJs, HKW.out.trans (HXE.out wr hws uq)⟩
            case measure => simp [Go.RowKit.intOf]; omega
        · obtain rfl : j = k := by omega
          gi_wp2
          go_end0
          exact ⟨⟨_, rfl⟩, .inl ⟨pre, HPRE.out, hJs⟩⟩
end Go.Proofs.Ytbppamjogdjfkaa
