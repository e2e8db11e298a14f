/- Walks: the variables that are spilled in no brief. -/
import Derived.Test.YthmglmmafgdmhaaGreatTB6
set_option linter.unusedSimpArgs false
set_option linter.unusedVariables false
namespace Go.Proofs.YthmglmmafgdmhaaGreat
open Go.RowKit Go.Shelf Go.Maps
attribute [local go_sem] Oper.semAt_some

/-- It returns a list that it has made. -/
def RetInts (r : List Int) (w : World) (e : Ending) (w' : World) : Prop :=
  ∃ v, e = .returned v ∧ OwnL w' w.heap.size 3 (fun _ => False) v r ∧ Below w.heap.size w w'
/-- The marks of loops that have been. -/
def marks (Ds : List Nat) : List Deferred := Ds.map fun D => { target := .collected D, args := #[] }
theorem leaves_marks {F : Fence} {n B : Nat} {P : Program} {fn : Func} {tmps : Array Value} {R : Ending → World → Prop} {u : FrameMode} {Q : World → Prop} (hu : u ≠ .run)
    (hQ : ∀ w D, B ≤ D → w.heap[D]? = some (.deferred (some [])) → Q w → Q (w.putObj D (.deferred none))) (hR : ∀ w, Q w → LeavesIn F n P fn tmps R [] u w) :
    ∀ (Ds : List Nat) (w : World), Ds.Nodup → (∀ D ∈ Ds, B ≤ D ∧ w.heap[D]? = some (.deferred (some []))) → Q w → LeavesInM F n P fn tmps R (marks Ds) u w
  | [], w, _, _, h => hR w h
  | D :: Ds, w, hn, hD, h => by
    rw [List.nodup_cons] at hn
    have h1 := hD D (by simp)
    refine ⟨hu, .inl ⟨D, _, rfl, run_takeDeferred h1.2, leaves_marks hu hQ hR Ds _ hn.2 (fun E hE => ⟨(hD E (by simp [hE])).1, ?_⟩) (hQ w D h1.1 h1.2 h)⟩⟩
    exact (World.putObj_heap_other (by intro e; exact hn.1 (by rw [← e]; exact hE))).trans (hD E (by simp [hE])).2
theorem keptB_wrong {l : List Brief} (h : anyF (fun b => !rightB b) l = true) : keptB l = [] := by unfold keptB; rw [h]; rfl
set_option maxRecDepth 100000 in
set_option maxHeartbeats 4000000 in
theorem kept_wrong (w : World) (S : Nat → Prop) (A : Option Addr) (n c : Nat) (l : List Brief) (h : Sl w S A n c l) (hr : anyF (fun b => !rightB b) l = true) : Calls Tryz.prog 17 #[.slice A n c] w (RetInts (keptB l) w) := by
  have HW := hide (show Calls Tryz.prog 31 #[.slice A n c, .func (.func 32) #[] #[]] w (RetX (.bool true) w) from hr ▸ wrongs_any w S A n c l h)
  have hf1 : Fence.wide.fn 31 := trivial
  rw [keptB_wrong hr]
  clear h
  refine (callsIn_wide (n := 8)).1 ?_
  refine callsIn_of_wp_marks Tryz.func17 rfl trivial ?_ rfl
  simp only [Tryz.ntmps17, List.size_toArray, List.length_cons, List.length_nil, Nat.reduceAdd, Nat.reduceSub, Array.replicate_succ, Array.replicate_zero, List.push_toArray, List.append_toArray, List.nil_append, List.cons_append]
  gi_wp2_with (gi_at_call 31; refine (callsIn_wide.2 HW.out).mono ?_; rintro e _ ⟨rfl, u1, rfl⟩)
  exact ⟨_, results_tmp rfl _ _ _, _, rfl, OwnL.nil_ _ _ _ _, Below.of_ext w _ (Nat.le_refl _)⟩
abbrev IMapI (w : World) (b n : Nat) (f : Int → Option Int) : Prop := MapP iK iE w b n f
/-- A set of numbers, as a map. -/
def oneF (p : Int → Bool) : Int → Option Int := fun v => if p v then some 1 else none
/-- Between two briefs. -/
structure KeptI (w : World) (mb : Nat) (N : Nat) (p : Int → Bool) (Ds : List Nat) (W : World) : Prop where
  size : mb + 2 ≤ W.heap.size
  cell : W.heap[mb + 1]? = some (.cells #[.map (some mb)] 59 (0, 0))
  map : IMapI W mb N (oneF p)
  ds : ∀ D ∈ Ds, mb + 2 ≤ D ∧ W.heap[D]? = some (.deferred (some []))
  nd : Ds.Nodup
  below : Below w.heap.size w W
theorem KeptI.own {α : Type} {w : World} {mb B : Nat} {N : α → Nat} {p : α → Int → Bool} {Ds : List Nat} (hB : w.heap.size ≤ B) (hm : mb + 2 ≤ B) (hD : ∀ D ∈ Ds, D < B) : OwnFrom B (fun (x : α) W => KeptI w mb (N x) (p x) Ds W) := fun x W W' row h hg hr => by
  have hne : ∀ r, row = some r → B ≤ r := fun r e => (hr r e).1
  refine ⟨Nat.le_trans h.size hg.size, (hg.block (mb + 1) (Array.getElem?_eq_some_iff.1 h.cell).1 fun e => by have := hne _ e.symm; omega).trans h.cell, h.map.kept hg fun e => by have := hne _ e.symm; omega, fun D hd => ?_, h.nd, h.below.grown hg h.below.size fun r e => by have := hne r e; omega⟩
  obtain ⟨h1, h2⟩ := h.ds D hd
  exact ⟨h1, (hg.block D (Array.getElem?_eq_some_iff.1 h2).1 fun e => by have := hne _ e.symm; have := hD D hd; omega).trans h2⟩
theorem KeptI.below_all {w W W' : World} {mb N : Nat} {p : Int → Bool} {Ds : List Nat} (h : KeptI w mb N p Ds W) (hb : Below W.heap.size W W') : KeptI w mb N p Ds W' :=
  ⟨Nat.le_trans h.size hb.size, (hb.block _ (Array.getElem?_eq_some_iff.1 h.cell).1).trans h.cell, h.map.keep (hb.block mb h.map.lt), fun D hd => ⟨(h.ds D hd).1, (hb.block D (Array.getElem?_eq_some_iff.1 (h.ds D hd).2).1).trans (h.ds D hd).2⟩, h.nd, h.below.trans (hb.mono h.below.size)⟩
theorem KeptI.congr {w W : World} {mb N : Nat} {p p' : Int → Bool} {Ds : List Nat} (h : KeptI w mb N p Ds W) (e : ∀ v, p' v = p v) : KeptI w mb N p' Ds W := by
  have : p' = p := funext e
  rw [this]; exact h
/-- One entry is written, or goes. -/
theorem KeptI.step {w W W' : World} {mb N N' : Nat} {p p' : Int → Bool} {Ds : List Nat} (h : KeptI w mb N p Ds W) (hwm : w.heap.size ≤ mb) (hg : W.grownBy W' (some mb)) (hm : IMapI W' mb N' (oneF p')) : KeptI w mb N' p' Ds W' := by
  have hz := h.size
  refine ⟨Nat.le_trans h.size hg.size, (hg.block _ (by omega) fun e => by injection e with e; omega).trans h.cell, hm, fun D hd => ?_, h.nd, h.below.grown hg h.below.size fun r e => by injection e with e; omega⟩
  obtain ⟨h1, h2⟩ := h.ds D hd
  exact ⟨h1, (hg.block D (Array.getElem?_eq_some_iff.1 h2).1 fun e => by injection e with e; omega).trans h2⟩
theorem upd_one (p : Int → Bool) (v : Int) : upd (oneF p) v (some 1) = oneF fun u => p u || v == u := by
  funext u
  unfold upd oneF
  by_cases e : u = v
  · subst e; simp
  · have : (v == u) = false := by simp; exact fun h => e h.symm
    simp [e, this]
theorem upd_non (p : Int → Bool) (v : Int) : upd (oneF p) v none = oneF fun u => p u && !(v == u) := by
  funext u
  unfold upd oneF
  by_cases e : u = v
  · subst e; simp
  · have : (v == u) = false := by simp; exact fun h => e h.symm
    simp [e, this]
theorem hasV_vc {b : Brief} (R : RightB b) (v : Int) : (vcB b).any (fun p => p.1 == v) = hasV v b := by
  have h : (vcB b).map (·.1) = b.vars := by unfold vcB; rw [List.map_fst_zip (by rw [R.lc]; exact Nat.le_refl _)]
  unfold hasV
  rw [← h]
  induction vcB b with
  | nil => rfl
  | cons q t ih =>
    rw [List.any_cons, List.map_cons, List.contains_cons, ih]
    congr 1
    rw [Bool.eq_iff_iff, beq_iff_eq, beq_iff_eq]
    exact eq_comm
/-- The set behind k briefs, and a part of the next. -/
def hasK (l : List Brief) (k : Nat) (pre : List (Int × Int)) (v : Int) : Bool := (l.take k).any (hasV v) || pre.any fun p => p.1 == v
def spK (l : List Brief) (k : Nat) (pre : List (Int × Int)) (v : Int) : Bool := l.any (hasV v) && !((l.take k).any (spilV v) || pre.any fun p => p.1 == v && decide (p.2 < 0))
theorem hasK_snoc (l : List Brief) (k : Nat) (pre : List (Int × Int)) (p : Int × Int) (v : Int) : hasK l k (pre ++ [p]) v = (hasK l k pre v || p.1 == v) := by unfold hasK; simp [Bool.or_assoc]
theorem hasK_next {l : List Brief} {k : Nat} {b : Brief} (h : l[k]? = some b) (R : RightB b) (v : Int) : hasK l (k + 1) [] v = hasK l k (vcB b) v := by
  unfold hasK; rw [take_at h, hasV_vc R]; simp
theorem spK_snoc (l : List Brief) (k : Nat) (pre : List (Int × Int)) (p : Int × Int) (v : Int) : spK l k (pre ++ [p]) v = if p.2 < 0 then (spK l k pre v && !(p.1 == v)) else spK l k pre v := by
  unfold spK
  by_cases h : p.2 < 0 <;> simp [h, Bool.and_assoc]
theorem spK_next {l : List Brief} {k : Nat} {b : Brief} (h : l[k]? = some b) (v : Int) : spK l (k + 1) [] v = spK l k (vcB b) v := by
  unfold spK; rw [take_at h]; simp [spilV, Bool.and_assoc]
theorem spK_zero (l : List Brief) (v : Int) : spK l 0 [] v = hasK l l.length [] v := by unfold spK hasK; simp
set_option maxRecDepth 100000 in
set_option maxHeartbeats 4000000 in
theorem kept_right (w : World) (S : Nat → Prop) (A : Option Addr) (n c : Nat) (l : List Brief) (h : Sl w S A n c l) (hn : n ≤ 1048576) (hr : anyF (fun b => !rightB b) l = false) : Calls Tryz.prog 17 #[.slice A n c] w (RetInts (keptB l) w) := by
  have HW := hide (show Calls Tryz.prog 31 #[.slice A n c, .func (.func 32) #[] #[]] w (RetX (.bool false) w) from hr ▸ wrongs_any w S A n c l h)
  have hf1 : Fence.wide.fn 31 := trivial
  have hf2 : Fence.wide.fn 40 := trivial
  have hf3 : Fence.wide.fn 42 := trivial
  have hf4 : Fence.wide.fn 41 := trivial
  have R := all_right hr
  have HL := hide h.len
  have H := hide (h.more fun _ hb _ => hb)
  have hmm := @run_makeMap Tryz.prog
  clear h
  refine (callsIn_wide (n := 8)).1 ?_
  refine callsIn_of_wp_marks Tryz.func17 rfl trivial ?_ rfl
  simp only [Tryz.ntmps17, List.size_toArray, List.length_cons, List.length_nil, Nat.reduceAdd, Nat.reduceSub, Array.replicate_succ, Array.replicate_zero, List.push_toArray, List.append_toArray, List.nil_append, List.cons_append]
  gi_wp2_with (gi_at_call 31; refine (callsIn_wide.2 HW.out).mono ?_; rintro e _ ⟨rfl, u1, rfl⟩)
  obtain ⟨W1, hW1⟩ : ∃ W1, w.ext u1 = W1 := ⟨_, rfl⟩
  obtain ⟨mb, hmb⟩ : ∃ mb, w.heap.size + u1.blocks.size = mb := ⟨_, rfl⟩
  have hs1 : W1.heap.size = mb := by rw [← hW1, size_ext, hmb]
  have hb1 : Below w.heap.size w W1 := by rw [← hW1]; exact Below.of_ext w _ (Nat.le_refl _)
  rw [hW1, hmb]
  have hwm : w.heap.size ≤ mb := by omega
  have hI0 : KeptI w mb (200 * 0) (hasK l 0 []) [] ((W1.alloc (.map #[] 0)).alloc (.cells #[.map (some mb)] 59)) := by
    have hm := (MapP.made (K := iK) (E := iE) W1)
    rw [hs1] at hm
    have e : (W1.alloc (.map #[] 0)).heap.size = mb + 1 := by simp; omega
    refine ⟨by simp; omega, by rw [← e]; exact heap_alloc_new _ _, hm.alloc _, fun _ h => by simp at h, List.nodup_nil, (hb1.alloc (by omega) _).alloc (by simp; omega) _⟩
  clear hmm hW1 hmb hb1 hs1
  refine wpIn_loop (fun a wr => ∃ (k : Nat) (Ds : List Nat) (u5 u17 u18 u19 u20 u21 u26 : Value), k ≤ n ∧ KeptI w mb (200 * k) (hasK l k []) Ds wr ∧ a = { tmps := #[.slice A n c, undef, .slice none 0 0, .pointer (some ⟨mb + 1, 0, none⟩), undef, u5, undef, undef, undef, undef, undef, .slice A n c, .bool false, .map (some mb), .slice A n c, .int .i64 n, .int .i64 k, u17, u18, u19, u20, u21, undef, undef, undef, undef, u26, undef, undef, undef, undef, undef, undef, undef, undef, undef, undef, undef, undef, undef, undef, undef, undef, undef, undef], defers := marks Ds }) (fun a _ => n - (intOf (a.tmps.getD 16 undef)).toNat) ⟨0, [], undef, undef, undef, undef, undef, undef, undef, Nat.zero_le _, hI0, rfl⟩ ?_
  rintro a wr ⟨k, Ds, u5, u17, u18, u19, u20, u21, u26, hk, hI, rfl⟩
  have HI := hide hI
  have hszI := hI.size
  have hbwr := hI.below.size
  have hsl := H.out.belowAll hI.below
  clear hI hI0
  by_cases hlt : k < n
  · obtain ⟨b, off, bx, A1, n1, c1, A2, n2, c2, A3, n3, c3, rfl, hb, hx, s1, s2, s3, k0, k1, k2⟩ := at_Brief hsl hlt
    have R1 := R bx (List.mem_of_getElem? hx)
    have HX := hide hx
    clear hx hsl
    gi_wp2_with (gi_at_call 40; refine (each_in Fence.wide _ trivial rfl _ _ _ _ _ _ _ _ _ _).mono ?_; rintro e _ ⟨rfl, rfl⟩)
    obtain ⟨V, hV⟩ : ∃ V, (wr.alloc (.cells #[.slice A1 n1 c1, .slice A2 n2 c2, .slice A3 n3 c3] 43)).alloc (.cells #[.slice A1 n1 c1, .slice A2 n2 c2, .slice A3 n3 c3] 43) = V := ⟨_, rfl⟩
    rw [hV]
    have hVs : V.heap.size = wr.heap.size + 2 := by rw [← hV]; simp
    have hbV : Below wr.heap.size wr V := by rw [← hV]; exact ((Below.refl _ _).alloc (Nat.le_refl _) _).alloc (by simp) _
    have hbx : BoxB V (wr.heap.size + 1) (fun g => g < w.heap.size) bx := by
      refine ⟨A1, n1, c1, A2, n2, c2, A3, n3, c3, ?_, s1.belowAll hbV, s2.belowAll hbV, s3.belowAll hbV⟩
      have e : (wr.alloc (.cells #[.slice A1 n1 c1, .slice A2 n2 c2, .slice A3 n3 c3] 43)).heap.size = wr.heap.size + 1 := by simp
      rw [← hV, ← e]
      exact heap_alloc_new _ _
    have hIV := HI.out.below_all hbV
    have hDV : ∀ D ∈ Ds, D < V.heap.size := fun D hd => by have := (Array.getElem?_eq_some_iff.1 (HI.out.ds D hd).2).1; omega
    clear hV s1 s2 s3 k0 k1 k2
    have hvl := rising_few R1.rise
    refine wpIn_rangeFunc_ownG rfl (by omega) (gf := 64) (lb := #[.pointer (some ⟨wr.heap.size + 1, 0, none⟩)]) rfl trivial (enters_of Tryz.func64 (by kernel_rfl) rfl)
      (each_stops Fence.wide _ trivial rfl (by omega) (wr.heap.size + 1) (fun g => g < w.heap.size ∨ g = wr.heap.size + 1) _ bx R1 V hbx (.inr rfl) (fun _ h => .inl h)) (fun h k => h.trans k) (keepX_b (by rintro g (h | h) <;> omega)) (Below.refl _ _) (fun _ => rfl)
      (fun pre W => KeptI w mb (200 * k + pre.length) (hasK l k (unVC pre)) Ds W ∧ V.heap.size ≤ W.heap.size) (fun _ _ _ => False) (OwnFrom.and (KeptI.own (N := fun pre : List VC => 200 * k + pre.length) (p := fun pre => hasK l k (unVC pre)) (by omega) (by omega) hDV) (fun _ _ _ _ hs hg _ => Nat.le_trans hs hg.size)) (fun _ _ _ _ _ hs _ _ => hs) ⟨hIV, Nat.le_refl _⟩
      (fun x => { tmps := #[.slice (some ⟨b, off, none⟩) n c, undef, .slice none 0 0, .pointer (some ⟨mb + 1, 0, none⟩), undef, .pointer (some ⟨wr.heap.size, 0, none⟩), .int .i64 x.1.1, undef, undef, undef, undef, .slice (some ⟨b, off, none⟩) n c, .bool false, .map (some mb), .slice (some ⟨b, off, none⟩) n c, .int .i64 n, .int .i64 k, .bool true, .pointer (some ⟨b, off + k * 3, none⟩), .agg #[.slice A1 n1 c1, .slice A2 n2 c2, .slice A3 n3 c3], .agg #[.slice A1 n1 c1, .slice A2 n2 c2, .slice A3 n3 c3], .func (.func 64) #[] #[.pointer (some ⟨wr.heap.size + 1, 0, none⟩)], .int .i64 x.1.1, .int .i64 x.1.2, undef, undef, u26, undef, undef, undef, undef, undef, undef, undef, undef, undef, undef, undef, undef, undef, undef, undef, undef, undef, undef], defers := [] }) ?assign ?body ?done ?stop
    case assign =>
      intro l x W K hK
      gi_wp2
      exact hK
    case body =>
      rintro l' pre x W ⟨hII, hzW⟩ hlen
      obtain ⟨⟨v, cc⟩, hxv, hxc⟩ := x
      dsimp only at hxv hxc ⊢
      have c1' : W.cell? ⟨mb + 1, 0, none⟩ = some (.map (some mb)) := cell_of_row W (mb + 1) _ _ _ (0, 0) hII.cell
      have hcl : mb + 1 < W.heap.size := by have := hII.size; omega
      have HII := hide hII
      have hIv : InI v := by unfold InI; omega
      clear hII hIV hbx
      gi_wp2_with (gi_at_mapUpdate; refine wpListIn_put_map (K := iK) (E := iE) rfl (.tmp 24) (.tmp 25) (.const (.int .i64 1)) 59 rfl Tryz.underlying59 rfl HII.out.map (by unfold maxLen; omega) v rfl hIv 1 rfl (by show InI 1; unfold InI; omega) ?_; intro w7 hm7 hg7)
      rw [upd_one] at hm7
      refine ⟨KeepsFrom.of_grownBy hg7 fun j e => by injection e with e; omega, ⟨hg7.size, fun r hr => hg7.block r (by omega) fun e => by injection e with e; omega⟩, ?_, Nat.le_trans hzW hg7.size⟩
      rw [List.length_append]
      refine (HII.out.step hwm hg7 hm7).congr fun u => ?_
      unfold unVC
      rw [List.map_append]
      exact hasK_snoc l k _ (v, cc) u
    case done =>
      rintro D ys W hD hys ⟨hII, hzW⟩ hK
      have HII := hide hII; have HK := hide hK
      have hyl : ys.length ≤ 200 := by
        have h1 := congrArg List.length hys
        rw [List.length_map, vc_len R1] at h1
        omega
      clear hII hK hIV hbx
      gi_wp2
      refine ⟨⟨k + 1, D :: Ds, _, _, _, _, _, _, _, by omega, ?_, rfl⟩, by simp [intOf]; omega⟩
      have hm := HII.out.map
      refine ⟨HII.out.size, HII.out.cell, ?_, ?_, ?_, HII.out.below⟩
      · rw [hys] at hm
        have e : hasK l (k + 1) [] = hasK l k (vcB bx) := funext fun v => hasK_next HX.out R1 v
        rw [e]
        exact hm.mono (by omega)
      · intro E hE
        rcases List.mem_cons.1 hE with rfl | hE
        · exact ⟨by omega, HK.out⟩
        · exact HII.out.ds E hE
      · exact List.nodup_cons.2 ⟨fun h => by have := hDV D h; omega, HII.out.nd⟩
    case stop =>
      rintro D c pre W _ _ h _
      exact h.elim
  · have hkn : n = k := by omega
    subst hkn
    gi_wp2
    have hI2 : KeptI w mb (200 * n) (spK l 0 []) Ds wr := HI.out.congr fun v => by rw [spK_zero, HL.out]
    clear HI
    refine wpIn_loop (fun a wr => ∃ (k : Nat) (Ds : List Nat) (u8 u30 u31 u32 u33 u34 u41 : Value), k ≤ n ∧ KeptI w mb (200 * n) (spK l k []) Ds wr ∧ a = { tmps := #[.slice A n c, undef, .slice none 0 0, .pointer (some ⟨mb + 1, 0, none⟩), undef, u5, undef, undef, u8, undef, undef, .slice A n c, .bool false, .map (some mb), .slice A n c, .int .i64 n, .int .i64 n, .bool false, u18, u19, u20, u21, undef, undef, undef, undef, u26, .slice A n c, .int .i64 n, .int .i64 k, u30, u31, u32, u33, u34, undef, undef, undef, undef, undef, undef, u41, undef, undef, undef], defers := marks Ds }) (fun a _ => n - (intOf (a.tmps.getD 29 undef)).toNat) ⟨0, Ds, undef, undef, undef, undef, undef, undef, undef, Nat.zero_le _, hI2, rfl⟩ ?_
    clear hI2 hsl hszI hbwr
    rintro a wr ⟨k, Ds, u8, u30, u31, u32, u33, u34, u41, hk, hI, rfl⟩
    have HI := hide hI
    have hszI := hI.size
    have hbwr := hI.below.size
    have hsl := H.out.belowAll hI.below
    have hIc := hI.cell
    clear hI
    by_cases hlt : k < n
    · obtain ⟨b, off, bx, A1, n1, c1, A2, n2, c2, A3, n3, c3, rfl, hb, hx, s1, s2, s3, k0, k1, k2⟩ := at_Brief hsl hlt
      have R1 := R bx (List.mem_of_getElem? hx)
      have HX := hide hx
      clear hx hsl hIc
      gi_wp2_with (gi_at_call 40; refine (each_in Fence.wide _ trivial rfl _ _ _ _ _ _ _ _ _ _).mono ?_; rintro e _ ⟨rfl, rfl⟩)
      obtain ⟨V, hV⟩ : ∃ V, (wr.alloc (.cells #[.slice A1 n1 c1, .slice A2 n2 c2, .slice A3 n3 c3] 43)).alloc (.cells #[.slice A1 n1 c1, .slice A2 n2 c2, .slice A3 n3 c3] 43) = V := ⟨_, rfl⟩
      rw [hV]
      have hVs : V.heap.size = wr.heap.size + 2 := by rw [← hV]; simp
      have hbV : Below wr.heap.size wr V := by rw [← hV]; exact ((Below.refl _ _).alloc (Nat.le_refl _) _).alloc (by simp) _
      have hbx : BoxB V (wr.heap.size + 1) (fun g => g < w.heap.size) bx := by
        refine ⟨A1, n1, c1, A2, n2, c2, A3, n3, c3, ?_, s1.belowAll hbV, s2.belowAll hbV, s3.belowAll hbV⟩
        have e : (wr.alloc (.cells #[.slice A1 n1 c1, .slice A2 n2 c2, .slice A3 n3 c3] 43)).heap.size = wr.heap.size + 1 := by simp
        rw [← hV, ← e]
        exact heap_alloc_new _ _
      have hIV := HI.out.below_all hbV
      have hDV : ∀ D ∈ Ds, D < V.heap.size := fun D hd => by have := (Array.getElem?_eq_some_iff.1 (HI.out.ds D hd).2).1; omega
      clear hV s1 s2 s3 k0 k1 k2
      have hvl := rising_few R1.rise
      refine wpIn_rangeFunc_ownG rfl (by omega) (gf := 64) (lb := #[.pointer (some ⟨wr.heap.size + 1, 0, none⟩)]) rfl trivial (enters_of Tryz.func64 (by kernel_rfl) rfl)
        (each_stops Fence.wide _ trivial rfl (by omega) (wr.heap.size + 1) (fun g => g < w.heap.size ∨ g = wr.heap.size + 1) _ bx R1 V hbx (.inr rfl) (fun _ h => .inl h)) (fun h k => h.trans k) (keepX_b (by rintro g (h | h) <;> omega)) (Below.refl _ _) (fun _ => rfl)
        (fun pre W => KeptI w mb (200 * n) (spK l k (unVC pre)) Ds W ∧ V.heap.size ≤ W.heap.size) (fun _ _ _ => False) (OwnFrom.and (KeptI.own (N := fun pre : List VC => 200 * n) (p := fun pre => spK l k (unVC pre)) (by omega) (by omega) hDV) (fun _ _ _ _ hs hg _ => Nat.le_trans hs hg.size)) (fun _ _ _ _ _ hs _ _ => hs) ⟨hIV, Nat.le_refl _⟩
        (fun x => { tmps := #[.slice (some ⟨b, off, none⟩) n c, undef, .slice none 0 0, .pointer (some ⟨mb + 1, 0, none⟩), undef, u5, undef, undef, .pointer (some ⟨wr.heap.size, 0, none⟩), .int .i64 x.1.1, .int .i64 x.1.2, .slice (some ⟨b, off, none⟩) n c, .bool false, .map (some mb), .slice (some ⟨b, off, none⟩) n c, .int .i64 n, .int .i64 n, .bool false, u18, u19, u20, u21, undef, undef, undef, undef, u26, .slice (some ⟨b, off, none⟩) n c, .int .i64 n, .int .i64 k, .bool true, .pointer (some ⟨b, off + k * 3, none⟩), .agg #[.slice A1 n1 c1, .slice A2 n2 c2, .slice A3 n3 c3], .agg #[.slice A1 n1 c1, .slice A2 n2 c2, .slice A3 n3 c3], .func (.func 64) #[] #[.pointer (some ⟨wr.heap.size + 1, 0, none⟩)], .int .i64 x.1.1, .int .i64 x.1.2, undef, undef, undef, undef, u41, undef, undef, undef], defers := [] }) ?assign ?body ?done ?stop
      case assign =>
        intro l x W K hK
        gi_wp2
        exact hK
      case body =>
        rintro l' pre x W ⟨hII, hzW⟩ hlen
        obtain ⟨⟨v, cc⟩, hxv, hxc⟩ := x
        dsimp only at hxv hxc ⊢
        have c1' : W.cell? ⟨mb + 1, 0, none⟩ = some (.map (some mb)) := cell_of_row W (mb + 1) _ _ _ (0, 0) hII.cell
        have hcl : mb + 1 < W.heap.size := by have := hII.size; omega
        have HII := hide hII
        have hIv : InI v := by unfold InI; omega
        clear hII hIV hbx
        by_cases hneg : cc < 0
        · obtain ⟨w7, hdel, hm7, hg7⟩ := HII.out.map.del (K := iK) (E := iE) Tryz.underlying59 0 (x := v) hIv
          change (Builtin.delete_ #[59, 3] 0 #[.map (some mb), .int .i64 v]).run Tryz.prog W = Result.ok (.tuple #[]) w7 at hdel
          gi_wp2
          rw [upd_non] at hm7
          refine ⟨KeepsFrom.of_grownBy hg7 fun j e => by injection e with e; omega, ⟨hg7.size, fun r hr => hg7.block r (by omega) fun e => by injection e with e; omega⟩, ?_, Nat.le_trans hzW hg7.size⟩
          refine (HII.out.step hwm hg7 hm7).congr fun u => ?_
          unfold unVC
          rw [List.map_append]
          exact (spK_snoc l k _ (v, cc) u).trans (if_pos hneg)
        · gi_wp2
          refine ⟨KeepsFrom.refl _ _, KeepX.refl _ _, HII.out.congr fun u => ?_, by omega⟩
          unfold unVC
          rw [List.map_append]
          exact (spK_snoc l k _ (v, cc) u).trans (if_neg (by omega))
      case done =>
        rintro D ys W hD hys ⟨hII, hzW⟩ hK
        have HII := hide hII; have HK := hide hK
        have hyl : ys.length ≤ 200 := by
          have h1 := congrArg List.length hys
          rw [List.length_map, vc_len R1] at h1
          omega
        clear hII hK hIV hbx
        gi_wp2
        refine ⟨⟨k + 1, D :: Ds, _, _, _, _, _, _, _, by omega, ?_, rfl⟩, by simp [intOf]; omega⟩
        have hm := HII.out.map
        refine ⟨HII.out.size, HII.out.cell, ?_, ?_, ?_, HII.out.below⟩
        · rw [hys] at hm
          have e : spK l (k + 1) [] = spK l k (vcB bx) := funext fun v => spK_next HX.out v
          rw [e]
          exact hm.mono (by omega)
        · intro E hE
          rcases List.mem_cons.1 hE with rfl | hE
          · exact ⟨by omega, HK.out⟩
          · exact HII.out.ds E hE
        · exact List.nodup_cons.2 ⟨fun h => by have := hDV D h; omega, HII.out.nd⟩
      case stop =>
        rintro D c pre W _ _ h _
        exact h.elim
    · have hkn : n = k := by omega
      subst hkn
      have c1' : wr.cell? ⟨mb + 1, 0, none⟩ = some (.map (some mb)) := cell_of_row wr (mb + 1) _ _ _ (0, 0) hIc
      have hcl : mb + 1 < wr.heap.size := by omega
      clear hIc hsl
      gi_wp2_with (first
        | (gi_at_call 42; refine (keysB_in _ (by omega) _ _).mono ?_; rintro e _ ⟨rfl, rfl⟩)
        | (gi_at_call 41; refine (sortedB_in _ (by omega) wr mb _ _ HI.out.map (by omega)).mono ?_; rintro e w3 ⟨v3, L3, rfl, hL1, hL2, hL3, hL4⟩))
      have hLk : L3 = keptB l := lt_unique hL1 (keptB_lt l) fun v => by
        rw [hL2, keptB_mem hr]
        have hn' := HL.out
        unfold oneF spK
        rw [List.take_of_length_le (by omega)]
        simp
      rw [← hLk]
      have hL4' : Below w.heap.size w w3 := (HI.out.below.alloc (by omega) _).trans (hL4.mono (by simp; omega))
      have hDs : ∀ D ∈ Ds, w.heap.size ≤ D ∧ w3.heap[D]? = some (.deferred (some [])) := fun D hd => by
        obtain ⟨h1, h2⟩ := HI.out.ds D hd
        have h3 := (Array.getElem?_eq_some_iff.1 h2).1
        exact ⟨by omega, ((hL4.block D (by simp; omega)).trans (Below.heap_alloc wr _ D h3)).trans h2⟩
      refine leaves_marks (B := w.heap.size) (Q := fun W => OwnL W wr.heap.size 3 (fun _ => False) v3 L3 ∧ Below w.heap.size w W) (by simp) ?_ ?_ Ds w3 HI.out.nd hDs ⟨hL3, hL4'⟩
      · rintro W D hB hK ⟨ho, hb⟩
        refine ⟨ho.keep (by simp [World.putObj]) (fun _ hf => hf.elim) (fun r hr => World.putObj_heap_other ?_), hb.trans (belowK_b (w := w) (Nat.le_refl _) W D _ _ hB hK rfl rfl)⟩
        intro e
        obtain ⟨cur, hc⟩ := ho.cellsB hr
        first | rw [← e, hK] at hc | rw [e, hK] at hc
        cases hc
      · rintro W ⟨ho, hb⟩
        exact ⟨_, results_tmp rfl _ _ _, v3, rfl, ho.lowB (by omega), hb⟩
theorem kept_any (w : World) (S : Nat → Prop) (A : Option Addr) (n c : Nat) (l : List Brief) (h : Sl w S A n c l) (hn : n ≤ 1048576) : Calls Tryz.prog 17 #[.slice A n c] w (RetInts (keptB l) w) := by
  cases hr : anyF (fun b => !rightB b) l with
  | true => exact kept_wrong w S A n c l h hr
  | false => exact kept_right w S A n c l h hn hr
end Go.Proofs.YthmglmmafgdmhaaGreat
