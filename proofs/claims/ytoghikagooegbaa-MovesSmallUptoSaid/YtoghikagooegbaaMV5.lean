/- Walks: the program's moves: ready. -/
import Derived.Test.YtoghikagooegbaaN9
import Derived.Test.YtoghikagooegbaaN3
set_option linter.unusedSimpArgs false
set_option linter.unusedVariables false
namespace Go.Proofs.Ytoghikagooegbaa
open Go.RowKit Go.Maps

/-- THE LAW of a region that draws, for a world that is written by one operation, said of any worlds that may be. -/
theorem wp_region_G_last {P : Program} {id : Nat} {Q' : Exit → Act → World → Prop} {a : Act} {w : World} {l : List Oper} (F G0 : World → Prop) (Ws Ms : List Nat) {N : Nat} (n : Nat) {on : Oper} (hm : P.follows .mixedOrders = true) (hN : a.tmps.size = N) (hlen : l.length = n + 1) (hon : l[n]? = some on)
    (hB : flowB l.toArray (ancOf l.toArray) Ws Ms N = true) (hL : lastB (l.take n) on = true) (hF : ∀ w (u : Ext), F w → F (w.ext u)) (hG : ∀ w (u : Ext), G0 w → G0 (w.ext u)) (hF0 : F w.drew) (hG0 : G0 w.drew)
    (h : FlowG P l.toArray F G0 (ancOf l.toArray) Ws Ms (fun a w => wpList P l.toArray Q' [on] a w) (l.take n) 0 a []) : (Code.region id l.toArray true).wp P Q' a w := by
  subst hN
  obtain ⟨l1, hl, hn⟩ : ∃ l1, l = l1 ++ [on] ∧ l1.length = n := by
    refine ⟨l.take n, ?_, by rw [List.length_take]; omega⟩
    have h1 := List.take_succ_eq_append_getElem (l := l) (i := n) (by omega)
    rw [List.take_of_length_le (by omega)] at h1
    obtain ⟨h2, h3⟩ := List.getElem?_eq_some_iff.1 hon
    rw [h3] at h1; exact h1
  have ht : l.take n = l1 := by rw [hl, ← hn, List.take_left']; rfl
  rw [ht] at hL h
  subst hl hn
  unfold lastB at hL
  simp only [Bool.and_eq_true, Option.isNone_iff_eq_none] at hL
  obtain ⟨hd, hall⟩ := hL
  have hoff : ∀ j, j < l1.length → (l1 ++ [on]).toArray[0 + j]? = l1[j]? := fun j hj => by
    simp [List.getElem?_append_left hj]
  obtain ⟨D, hD0, hD, hE⟩ := flow_dataG (ops := (l1 ++ [on]).toArray) (a0 := a) l1 0 (fun _ => .inl undef) hoff h
  simp only [Nat.zero_add] at hD hE
  have hsame : ∀ i, i < l1.length → (fun i => if i = l1.length then (.inl undef : Kind) else D i) i = D i := fun i hi => by simp [Nat.ne_of_lt hi]
  have hact := actD_congr (ops := (l1 ++ [on]).toArray) (a0 := a) l1.length hsame
  have hheld := heldD_congr (ops := (l1 ++ [on]).toArray) l1.length hsame
  refine wp_region_any hm (flow_anyG (D := fun i => if i = l1.length then .inl undef else D i) (n := l1.length) (on := on) (by simp) (by simp) hd (fun j hj => by simpa using List.all_eq_true.1 hall j (List.mem_range.2 hj)) hF hG (flowOk_of hB) ⟨undef, by simp⟩
    (fun i o hi ho => stepG_congr (D := D) (fun j hj => by simp; omega) (hD i o (by omega) hi ho)) (fun w' hw' => by rw [hact, hheld]; exact hE w' hw') _ _ _ _ ?_ ?_ ?_ ?_)
  · simp
  · simp
  · refine ⟨hF0, by simp, rfl, rfl, fun _ _ => rfl, fun k hk => ?_, fun j o ho hj => ?_⟩
    · simp [Array.getElem?_replicate] at hk; split at hk <;> simp at hk
    · simp [Array.getElem?_replicate] at hj; split at hj <;> simp at hj
  · intro _; exact hG0
section
variable {P : Program} {ops : Array Oper} {F G0 : World → Prop} {an : List (List Nat)} {Ws Ms : List Nat} {Q : Act → World → Prop} {o : Oper} {rest : List Oper} {k : Nat} {a : Act} {H : List HeldP}
/-- .. known in each world that may be. -/
theorem flowG_knownF (hms : (maskOf ops o H).all (! ·) = true)
    (h : ∀ K : Act → Prop, (∀ a, FlowG P ops F G0 an Ws Ms Q rest (k + 1) a H → K a) → ∃ c, (∀ w, F w → KnownAt P ops o a c w) ∧ K (a.put o.dst c)) : FlowG P ops F G0 an Ws Ms Q (o :: rest) k a H := by
  obtain ⟨c, h1, h2⟩ := h _ fun _ h => h
  exact .inl ⟨c, fun w hw => useH_none (h1 w hw.1) _ _ hms, h2⟩
/-- .. what is held of an operation, wherever it comes. -/
theorem flowG_keepF (ms : List Bool) (post : Post) (hms : maskOf ops o H = ms) (hst : stable F (Ms.contains k) post)
    (h1 : ∀ w, F w → useH ms H a w fun a' => HeldAt P ops F (Ws.contains k) o a' post w)
    (h2 : FlowG P ops F G0 an Ws Ms Q rest (k + 1) a (H ++ [⟨k, o.dst, post⟩])) : FlowG P ops F G0 an Ws Ms Q (o :: rest) k a H :=
  .inr ⟨post, hst, fun w hw => hms ▸ h1 w hw.1, h2⟩
/-- .. of what comes ahead of the wild, or is it. -/
theorem flowG_keepG (ms : List Bool) (post : Post) (hms : maskOf ops o H = ms) (hst : stable F (Ms.contains k) post) (hp : preB an Ws k = true)
    (h1 : ∀ w, F w → G0 w → useH ms H a w fun a' => HeldAt P ops F (Ws.contains k) o a' post w)
    (h2 : FlowG P ops F G0 an Ws Ms Q rest (k + 1) a (H ++ [⟨k, o.dst, post⟩])) : FlowG P ops F G0 an Ws Ms Q (o :: rest) k a H :=
  .inr ⟨post, hst, fun w hw => hms ▸ h1 w hw.1 (hw.2 hp), h2⟩
end
/-- What an entry's place tells. -/
def EntQ (tb n : Nat) (f : Loc → Option Int) (x : Loc) (stamp : Nat) (w : World) : Prop := tb < w.heap.size ∧
  ∀ (w2 : World) (y : Int), InI y → w2.heap[tb]? = w.heap[tb]? → ∃ w3, (Instr.entryStore 100 (.map (some tb)) (.int .i64 stamp) (.int .i64 y)).run Try.prog w2 = .ok () w3 ∧ CMap w3 tb n (upd f x (some y)) ∧ w2.grownBy w3 (some tb)
theorem EntQ.ext {tb n : Nat} {f : Loc → Option Int} {x : Loc} {stamp : Nat} {w : World} (h : EntQ tb n f x stamp w) (u : Ext) : EntQ tb n f x stamp (w.ext u) :=
  ⟨by rw [size_ext]; have := h.1; omega, fun w2 y hy hb => h.2 w2 y hy (hb.trans (ext_block w u tb h.1))⟩
def Ent5 (tb n : Nat) (f : Loc → Option Int) (x : Loc) (v : Value) : Post := fun v' w => ∃ stamp : Nat, v' = .tuple #[v, .int .i64 stamp] ∧ EntQ tb n f x stamp w
def Ent6 (tb n : Nat) (f : Loc → Option Int) (x : Loc) : Post := fun v' w => ∃ stamp : Nat, v' = .int .i64 stamp ∧ EntQ tb n f x stamp w
theorem Ent5.stable_ {F : World → Prop} {tb n : Nat} {f : Loc → Option Int} {x : Loc} {v : Value} {mem : Bool} (hm : mem = true) : stable F mem (Ent5 tb n f x v) :=
  stable_mem hm fun _ _ u ⟨s, e, h⟩ => ⟨s, e, h.ext u⟩
theorem Ent6.stable_ {F : World → Prop} {tb n : Nat} {f : Loc → Option Int} {x : Loc} {mem : Bool} (hm : mem = true) : stable F mem (Ent6 tb n f x) :=
  stable_mem hm fun _ _ u ⟨s, e, h⟩ => ⟨s, e, h.ext u⟩
theorem ready1_any (w : World) (m : Move) (hm : InI m.dst.n) (tb N : Nat) (f : Loc → Option Int) (hv : w.cell? ⟨tb + 1, 0, none⟩ = some (.map (some tb))) (hb : tb + 1 < w.heap.size) (h : CMap w tb N f) :
    Calls Try.prog 64 #[.agg #[.bool m.src.slot, .int .i64 m.src.n, .bool m.dst.slot, .int .i64 m.dst.n], .pointer (some ⟨tb + 1, 0, none⟩)] w (RetX (.bool (decide ((f m.dst).getD 0 = 0))) w) := by
  have HM := hide h
  have hq : ∀ o : Obj, (Instr.lookup 100 (.map (some tb)) (.agg #[.bool m.dst.slot, .int .i64 m.dst.n]) false).run Try.prog (w.alloc o) = .ok (.int .i64 ((f m.dst).getD 0)) (w.alloc o) := fun o =>
    MapP.get (K := locK) (E := cellE) (HM.out.alloc o) Try.underlying100 (x := m.dst) hm
  obtain ⟨v, hv'⟩ : ∃ v, (f m.dst).getD 0 = v := ⟨_, rfl⟩
  rw [hv'] at hq ⊢
  clear h hv'
  go_enter Try.func64, Try.ntmps64
  go_wp2_with fail
  go_ret
  exact RetX.b rfl (by repeat (first | exact Below.refl _ _ | assumption | refine Below.alloc ?_ (by simp [size_ext]; try omega) _ | refine Below.ext ?_ (by simp [size_ext]; try omega) _ | refine Below.drew ?_ | refine Below.setCell ?_ (by simp [size_ext]; try omega) _))
set_option maxRecDepth 100000 in
set_option maxHeartbeats 4000000 in
theorem ready_any (w : World) (S : Nat → Prop) (A : Option Addr) (n c : Nat) (xs : List Move) (h : Sl w S A n c xs) (hm : n ≤ 1048576) :
    Calls Try.prog 38 #[.slice A n c] w (RetX (.int .i64 (readyI xs)) w) := by
  have HL := hide h.len
  have HS := hide (h.more (S' := fun _ => True) fun _ _ _ => trivial)
  clear h
  have hmm := @run_makeMap Try.prog
  obtain ⟨tb, htb⟩ : ∃ tb, w.heap.size = tb := ⟨_, rfl⟩
  go_enter Try.func38, Try.ntmps38
  go_wp2_with fail
  obtain ⟨W0, hW0⟩ : ∃ W, (w.alloc (.map #[] 0)).alloc (.cells #[.map (some tb)] 100) = W := ⟨_, rfl⟩
  have HTB := hide (show CMap W0 tb 0 (manyF []) by rw [← hW0, manyF_nil, ← htb]; exact (MapP.made w).alloc _)
  have HB0 := hide (show Below w.heap.size w W0 by rw [← hW0]; exact ((Below.refl _ _).alloc (Nat.le_refl _) _).alloc (by simp) _)
  have HX0 := hide (show W0.heap[tb + 1]? = some (.cells #[.map (some tb)] 100 (0, 0)) by
    rw [← hW0]; have h := heap_alloc_new (w.alloc (.map #[] 0)) (.cells #[.map (some tb)] 100); simpa [htb] using h)
  have HTW := hide htb
  rw [hW0]
  clear hmm hW0 htb
  go_loopw [9] (fun i wr => ∃ k : Nat, k ≤ n ∧ i = .int .i64 k ∧ CMap wr tb (2 * k) (manyF (xs.take k)) ∧ Below w.heap.size w wr ∧ wr.heap[tb + 1]? = some (.cells #[.map (some tb)] 100 (0, 0))) (fun i _ => n - (intOf i).toNat)
  case atStart => exact ⟨0, Nat.zero_le _, rfl, HTB.out, HB0.out, HX0.out⟩
  clear HTB HB0 HX0
  case round =>
    obtain ⟨k, hk, rfl, hmt, hbq, hbx⟩ := hrel
    have HMT := hide hmt; have HBQ := hide hbq; have HBX := hide hbx
    have hwq := hbq.size
    have hb1 : tb + 1 < wr.heap.size := (Array.getElem?_eq_some_iff.1 hbx).1
    have hbv : wr.cell? ⟨tb + 1, 0, none⟩ = some (.map (some tb)) := cell_of_row wr _ _ _ _ (0, 0) hbx
    clear hmt hbq hbx
    by_cases hlt : k < n
    · obtain ⟨b, off, x, rfl, hb, hx, hx1, hx2, c0, c1, c2, c3⟩ := at_Move (HS.out.belowAll HBQ.out) hlt
      have HTA := hide (take_at hx)
      have HX1 := hide hx1
      have hki : (k : Int) < n := by omega
      clear hx hx1 hx2
      obtain ⟨g, hg⟩ : ∃ g, wr.heap.size = g := ⟨_, rfl⟩
      obtain ⟨cv, hcv⟩ : ∃ cv : Nat, (xs.take k).countP (fun m => decide (m.src = x.src)) = cv := ⟨_, rfl⟩
      have hcl : cv ≤ k := by rw [← hcv]; exact Nat.le_trans List.countP_le_length (by rw [List.length_take]; omega)
      have HCV := hide hcv
      have HGV := hide (show ((manyF (xs.take k)) x.src).getD 0 = (cv : Int) by rw [manyF_get, hcv])
      clear hcv
      go_wp2_with fail
      obtain ⟨V, hV⟩ : ∃ V, wr.alloc (.cells #[.bool x.src.slot, .int .i64 x.src.n, .bool x.dst.slot, .int .i64 x.dst.n] 42) = V := ⟨_, rfl⟩
      have hgV : g < V.heap.size := by rw [← hV, ← hg]; simp
      have hrow : V.heap[g]? = some (.cells #[.bool x.src.slot, .int .i64 x.src.n, .bool x.dst.slot, .int .i64 x.dst.n] 42 (0, 0)) := by rw [← hV, ← hg]; exact heap_alloc_new wr _
      have HBV := hide (show Below w.heap.size w V by rw [← hV]; exact HBQ.out.alloc hwq _)
      have HMV := hide (show CMap V tb (2 * k) (manyF (xs.take k)) by rw [← hV]; exact HMT.out.alloc _)
      have HXV := hide (show V.heap[tb + 1]? = some (.cells #[.map (some tb)] 100 (0, 0)) by rw [← hV, Below.heap_alloc _ _ _ hb1]; exact HBX.out)
      have htg : tb + 1 < g := by omega
      rw [hV]
      clear hV c0 c1 c2 c3 hbv HMT HBQ HBX hg hb1 hwq
      obtain ⟨F, hF⟩ : ∃ F : World → Prop, F = fun w' => (rowF V (some tb) w' ∧ ∃ f' : Loc → Option Int, CMap w' tb (2 * k + 1) f' ∧ (f' x.src).getD 0 = (cv : Int)) := ⟨_, rfl⟩
      have HF := hide (show ∀ w', F w' → w'.cell? ⟨tb + 1, 0, none⟩ = some (.map (some tb)) ∧ w'.cell? ⟨g, 0, none⟩ = some (.bool x.src.slot) ∧ w'.cell? ⟨g, 1, none⟩ = some (.int .i64 x.src.n) ∧
        (Instr.lookup 100 (.map (some tb)) (.agg #[.bool x.src.slot, .int .i64 x.src.n]) false).run Try.prog w' = .ok (.int .i64 cv) w' from fun w' hw' => by
        rw [hF] at hw'
        obtain ⟨h1, f', h2, h3⟩ := hw'
        have e1 : w'.heap[g]? = some (.cells #[.bool x.src.slot, .int .i64 x.src.n, .bool x.dst.slot, .int .i64 x.dst.n] 42 (0, 0)) := (h1.block g hgV (by intro e; injection e with e; omega)).trans hrow
        have e2 : w'.heap[tb + 1]? = some (.cells #[.map (some tb)] 100 (0, 0)) := (h1.block (tb + 1) (by omega) (by intro e; injection e with e; omega)).trans HXV.out
        refine ⟨cell_of_row w' _ _ _ _ (0, 0) e2, cell_of_row w' _ _ _ _ (0, 0) e1, cell_of_row w' _ _ _ _ (0, 0) e1, ?_⟩
        have h := MapP.get (K := locK) (E := cellE) h2 Try.underlying100 (x := x.src) HX1.out
        rw [show (f' x.src).getD cellE.zero = (cv : Int) from h3] at h
        exact h)
      have HFE := hide (show ∀ w' (u : Ext), F w' → F (w'.ext u) from fun w' u hw' => by
        rw [hF] at hw' ⊢
        obtain ⟨h1, f', h2, h3⟩ := hw'
        exact ⟨rowF_ext w' u h1, f', h2.ext u, h3⟩)
      have HF0 := hide (show F V.drew by rw [hF]; exact ⟨rowF_drew V _, _, HMV.out.drew.mono (by omega), HGV.out⟩)
      have HFM := hide (show ∀ (u : Ext), ∃ (stamp : Nat) (w1 : World), (Instr.mapEntry 100 (.map (some tb)) (.agg #[.bool x.src.slot, .int .i64 x.src.n])).run Try.prog (V.ext u) = .ok (.tuple #[.int .i64 cv, .int .i64 stamp]) w1 ∧ EntQ tb (2 * k + 2) (manyF (xs.take k)) x.src stamp w1 ∧ F w1 from fun u => by
        obtain ⟨stamp, w1, r1, r2, r3, r4⟩ := MapP.entry (K := locK) (E := cellE) (HMV.out.ext u) Try.underlying100 (by unfold maxLen; omega) (x := x.src) HX1.out
        have e0 : ((manyF (xs.take k)) x.src).getD cellE.zero = (cv : Int) := HGV.out
        rw [e0] at r1 r2
        refine ⟨stamp, w1, r1, ⟨r2.lt, fun w2 y hy hb => r4 w2 y hy hb (by unfold maxLen; omega)⟩, ?_⟩
        rw [hF]
        refine ⟨(show V.grownBy (V.ext u) (some tb) from rowF_ext V u (World.grownBy.refl V _)).trans r3, _, r2, ?_⟩
        unfold upd; rw [if_pos rfl]; rfl)
      have HFR := hide (show ∀ w', F w' → rowF V (some tb) w' from fun w' hw' => by rw [hF] at hw'; exact hw'.1)
      clear hF
      refine wp_region_G_last F (extF V) [5] [5, 6] 7 (by kernel_rfl) rfl rfl rfl (by kernel_rfl) (by kernel_rfl) HFE.out (fun _ u ⟨x, hx⟩ => by rw [hx]; exact ext_ext V x u) HF0.out (ext_drew V) ?_
      simp only [List.take_succ_cons, List.take_zero]
      have hwr : IntKind.i64.wrap ((cv : Int) + 1) = (cv : Int) + 1 := IntWalk.i64_in _ (by omega)
      repeat (refine flowG_knownF (by kernel_rfl) (fun K hK => ?_); go_simp; first | (refine hK _ ?_; clear hK K) | (apply Exists.intro; refine ⟨fun w' hw' => ?_, hK _ ?_⟩; (obtain ⟨q0, q1, q2, q3⟩ := HF.out w' hw'; clear hw'; go_simp; try rfl); clear hK K))
      refine flowG_keepG [] (Ent5 tb (2 * k + 2) (manyF (xs.take k)) x.src (.int .i64 cv)) (by kernel_rfl) (Ent5.stable_ rfl) (by kernel_rfl) ?_ ?_
      · rintro w' hw' ⟨u, rfl⟩
        try simp only [List.nil_append, List.cons_append, useH_f, useH_t, useH_nil]
        obtain ⟨stamp, w1, r1, r2, r3⟩ := HFM.out u
        have HR2 := hide r2; have HR3 := hide r3
        clear r2 r3 hw'
        go_simp
        exact ⟨⟨stamp, rfl, HR2.out⟩, HR3.out, fun h => by cases h⟩
      refine flowG_keepF [true] (Ent6 tb (2 * k + 2) (manyF (xs.take k)) x.src) (by kernel_rfl) (Ent6.stable_ rfl) ?_ ?_
      · intro w' hw'
        try simp only [List.nil_append, List.cons_append, useH_f, useH_t, useH_nil]
        rintro v' ⟨stamp, rfl, hq⟩
        have HQ := hide hq
        clear hq
        go_simp
        exact ⟨⟨stamp, rfl, HQ.out⟩, hw', fun _ => ext_refl _⟩
      refine flowG_done [true, true] (by kernel_rfl) ?_
      intro w' hw'
      have HW := hide (HFR.out w' hw')
      clear hw'
      simp only [List.nil_append, List.cons_append, endH_f, endH_t, endH_nil]
      rintro v1 ⟨s1, rfl, hq1⟩ v2 ⟨s2, rfl, hq2⟩
      obtain ⟨w3, e1, e2, e3⟩ := hq2.2 w' ((cv : Int) + 1) (by unfold InI; omega) rfl
      have HE2 := hide e2; have HE3 := hide e3
      clear hq1 hq2 e2 e3 HF HFE HF0 HFM HFR hrow
      have HMN := hide (show CMap w3 tb (2 * (k + 1)) (manyF (xs.take (k + 1))) by
        rw [HTA.out, ← manyF_snoc, HCV.out]; exact HE2.out)
      have htV : tb < V.heap.size := by omega
      have HBN := hide (show Below w.heap.size w w3 from (HBV.out.grown HW.out (by have := HTW.out; omega) fun r e => by injection e with e; have := HTW.out; omega).grown HE3.out (by have := HTW.out; have := HW.out.size; omega) fun r e => by injection e with e; have := HTW.out; omega)
      have HXN := hide (show w3.heap[tb + 1]? = some (.cells #[.map (some tb)] 100 (0, 0)) from (HE3.out.block (tb + 1) (by have := HW.out.size; omega) (by intro e; injection e with e; omega)).trans ((HW.out.block (tb + 1) (by omega) (by intro e; injection e with e; omega)).trans HXV.out))
      clear HMV HBV HXV HW HE2 HE3
      go_wp2_with fail
      first
        | (go_roundw; case rel => exact ⟨k + 1, by omega, by go_num, HMN.out, HBN.out, HXN.out⟩; case measure => simp [intOf]; omega)
        | exact ⟨⟨k + 1, by omega, by go_num, HMN.out, HBN.out, HXN.out⟩, by simp [intOf]; omega⟩
    · have hkn : k = n := by omega
      subst hkn
      have hlk : xs.take k = xs := List.take_of_length_le (by rw [HL.out]; exact Nat.le_refl _)
      rw [hlk] at HMT
      clear hlk
      go_wp2_with fail
      refine (indexMoves_any _ (fun _ => True) _ _ _ xs (fun m => decide ((manyF xs m.dst).getD 0 = 0)) 64 #[.pointer (some ⟨tb + 1, 0, none⟩)] (HS.out.belowAll HBQ.out) (fun _ _ => by kernel_rfl) (fun x u _ h2 => ?_)).mono ?_
      · exact ready1_any _ x h2 tb _ _ (by rw [cell?_ext _ _ _ hb1]; exact hbv) (by rw [size_ext]; omega) (HMT.out.ext u)
      rintro e _ ⟨rfl, ux, rfl⟩
      go_wp2_with fail
      go_ret
      exact RetX.i (by rw [← idx_ready]; simp only [manyF_zero]) (HBQ.out.ext hwq _)
end Go.Proofs.Ytoghikagooegbaa
