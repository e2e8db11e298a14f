/- law28: walks: CertWords: as many as may be, and one more. law28: walks: CertWords: joined. -/
import Derived.Test.YtppkanniefignaaGreatDoorG42
import Derived.Test.YtppkanniefignaaGreatDoorG41
import Derived.Test.YtppkanniefignaaGreatDoorG39
import Derived.Test.YtppkanniefignaaGreatDoorP28z
import Derived.Test.YtppkanniefignaaGreatDoorCW5
set_option linter.unusedSimpArgs false
set_option linter.unusedVariables false
namespace Go.Proofs.YtppkanniefignaaGreatDoor
open Go.RowKit Go.Maps
def tile4 : Tile := ⟨4, 0, []⟩
theorem tile4_is (w : World) (S : Nat → Prop) : Rep.is w S tile4 [.int .i64 4, .int .i64 0, .slice none 0 0] := Tile.mk_ (x := tile4) (show InI 4 by unfold InI; omega) (show InI 0 by unfold InI; omega) Sl.nil
theorem box_grown {W0 wr w' : World} {g : Nat} {us : List Value} {T' : TypeId} {A : Option Addr} {n c : Nat} {α : Type} [Rep α] {T : TypeId} {xs : List α} (hb : Below g W0 wr) (hg : g < wr.heap.size) (ho : OwnL wr (g + 1) T (fun _ => False) (.slice A n c) xs) (hgr : (wr.alloc (.cells us.toArray T')).grownBy w' (Value.slice A n c).ownBlock) :
  Below g W0 w' ∧ w'.heap[g]? = wr.heap[g]? := by
 have hk : ∀ k, (Value.slice A n c).ownBlock = some k → g + 1 ≤ k := fun k hk => (ho.below_ k hk).1
 refine ⟨(hb.alloc (by omega) _).grown hgr (by simp; omega) fun k h => by have := hk k h; omega, ?_⟩
 exact (hgr.block g (by simp; omega) (fun e => by have := hk g e.symm; omega)).trans (Below.heap_alloc wr _ g hg)
theorem flowG_knownR {P : Program} {ops : Array Oper} {F G0 : World → Prop} {an : List (List Nat)} {Ws Ms : List Nat} {Q : Act → World → Prop} {o : Oper} {rest : List Oper} {k : Nat} {a : Act} {H : List HeldP} (hms : (maskOf ops o H).all (! ·) = true)
  (h : ∀ K : Act → Prop, (∀ a, FlowG P ops F G0 an Ws Ms Q rest (k + 1) a H → K a) → ∃ c, (∀ w, F w → KnownAt P ops o a c w) ∧ K (a.put o.dst c)) : FlowG P ops F G0 an Ws Ms Q (o :: rest) k a H := by
 obtain ⟨c, h1, h2⟩ := h _ fun _ h => h
 exact .inl ⟨c, fun w hw => useH_none (h1 w hw.1) _ _ hms, h2⟩
theorem allocs5 (W : World) (c0 c1 c2 c3 c4 : Array Value) (t0 t1 t2 t3 t4 : TypeId) {W' : World} (hW : ((((W.alloc (.cells c0 t0)).alloc (.cells c1 t1)).alloc (.cells c2 t2)).alloc (.cells c3 t3)).alloc (.cells c4 t4) = W') :
  W'.heap[W.heap.size]? = some (.cells c0 t0 (0, 0)) ∧ W'.heap[W.heap.size + 1]? = some (.cells c1 t1 (0, 0)) ∧ W'.heap[W.heap.size + 1 + 1]? = some (.cells c2 t2 (0, 0)) ∧ W'.heap[W.heap.size + 1 + 1 + 1]? = some (.cells c3 t3 (0, 0)) ∧ W'.heap[W.heap.size + 1 + 1 + 1 + 1]? = some (.cells c4 t4 (0, 0)) ∧ W'.heap.size = W.heap.size + 1 + 1 + 1 + 1 + 1 ∧ Below W.heap.size W W' := by
 subst hW
 refine ⟨?_, ?_, ?_, ?_, ?_, by simp, (by repeat (first | exact Below.refl _ _ | assumption | refine Below.alloc ?_ (by simp [size_ext]; try omega) _ | refine Below.ext ?_ (by simp [size_ext]; try omega) _ | refine Below.drew ?_ | refine Below.setCell ?_ (by simp [size_ext]; try omega) _))⟩
 ·rw [Below.heap_alloc _ _ _ (by simp <;> omega), Below.heap_alloc _ _ _ (by simp <;> omega), Below.heap_alloc _ _ _ (by simp <;> omega), Below.heap_alloc _ _ _ (by simp)]
  exact heap_alloc_new W _
 ·rw [Below.heap_alloc _ _ _ (by simp <;> omega), Below.heap_alloc _ _ _ (by simp <;> omega), Below.heap_alloc _ _ _ (by simp)]
  simpa using heap_alloc_new (W.alloc (.cells c0 t0)) (.cells c1 t1)
 ·rw [Below.heap_alloc _ _ _ (by simp <;> omega), Below.heap_alloc _ _ _ (by simp)]
  simpa using heap_alloc_new ((W.alloc (.cells c0 t0)).alloc (.cells c1 t1)) (.cells c2 t2)
 ·rw [Below.heap_alloc _ _ _ (by simp)]
  simpa using heap_alloc_new (((W.alloc (.cells c0 t0)).alloc (.cells c1 t1)).alloc (.cells c2 t2)) (.cells c3 t3)
 ·simpa using heap_alloc_new ((((W.alloc (.cells c0 t0)).alloc (.cells c1 t1)).alloc (.cells c2 t2)).alloc (.cells c3 t3)) (.cells c4 t4)
theorem certs4 (w : World) (At Ae Af : Option Addr) (ct ce cf a1 a2 a3 gz : Nat) (tl : List Tile) (el : List (List Fact)) (il : List Int) (xs : List Fact) (h1 : Sl w (fun _ => True) At a1 ct tl) (h2 : Sl w (fun _ => True) Ae a2 ce el) (h3 : Sl w (fun _ => True) (some ⟨gz, 0, none⟩) a1 201 il) (h4 : Sl w (fun _ => True) Af a3 cf xs) {W : World}
  (hW : ((((((w.alloc (.cells #[.slice At a1 ct, .slice none 0 0] 26)).alloc (.cells #[.slice none 0 0, .slice Ae a2 ce] 26)).alloc (.cells #[.int .i64 1, .int .i64 (-1), .slice (some ⟨gz, 0, none⟩) a1 201] 35)).alloc (.cells #[.slice (some ⟨w.heap.size + 1 + 1, 0, none⟩) 1 1, .slice none 0 0] 26)).alloc (.cells #[.slice Af a3 cf] 37)).alloc (.cells #[.slice none 0 0, .slice (some ⟨w.heap.size + 1 + 1 + 1 + 1, 0, none⟩) 1 1] 26)).alloc (.cells #[.slice At a1 ct, .slice none 0 0, .slice none 0 0, .slice Ae a2 ce, .slice (some ⟨w.heap.size + 1 + 1, 0, none⟩) 1 1, .slice none 0 0, .slice none 0 0, .slice (some ⟨w.heap.size + 1 + 1 + 1 + 1, 0, none⟩) 1 1] 26) = W) :
  Sl W (fun _ => True) (some ⟨w.heap.size + 1 + 1 + 1 + 1 + 1 + 1, 0, none⟩) 4 4 [(⟨tl, []⟩ : Cert), ⟨[], el⟩, ⟨[⟨1, -1, il⟩], []⟩, ⟨[], [xs]⟩] ∧ Below w.heap.size w W := by
 subst hW
 refine ⟨?_, (by repeat (first | exact Below.refl _ _ | assumption | refine Below.alloc ?_ (by simp [size_ext]; try omega) _ | refine Below.ext ?_ (by simp [size_ext]; try omega) _ | refine Below.drew ?_ | refine Below.setCell ?_ (by simp [size_ext]; try omega) _))⟩
 have tr : ∀ b : Nat, (fun _ : Nat => True) b := fun _ => trivial
 have i1 : InI 1 ∧ InI (-1) := by unfold InI; omega
 have st : Sl (((w.alloc (.cells #[.slice At a1 ct, .slice none 0 0] 26)).alloc (.cells #[.slice none 0 0, .slice Ae a2 ce] 26)).alloc (.cells #[.int .i64 1, .int .i64 (-1), .slice (some ⟨gz, 0, none⟩) a1 201] 35)) (fun _ => True) (some ⟨w.heap.size + 1 + 1, 0, none⟩) 1 1 [(⟨1, -1, il⟩ : Tile)] :=
  Sl.lit (n := 1) (S := fun _ => True) (us := [.int .i64 1, .int .i64 (-1), .slice (some ⟨gz, 0, none⟩) a1 201]) (by simp) (RepL.single (Tile.mk_ (x := ⟨1, -1, il⟩) i1.1 i1.2 ((h3.alloc _).alloc _))) rfl (by decide) (fun _ _ => trivial) trivial
 have sf : Sl (((((w.alloc (.cells #[.slice At a1 ct, .slice none 0 0] 26)).alloc (.cells #[.slice none 0 0, .slice Ae a2 ce] 26)).alloc (.cells #[.int .i64 1, .int .i64 (-1), .slice (some ⟨gz, 0, none⟩) a1 201] 35)).alloc (.cells #[.slice (some ⟨w.heap.size + 1 + 1, 0, none⟩) 1 1, .slice none 0 0] 26)).alloc (.cells #[.slice Af a3 cf] 37)) (fun _ => True) (some ⟨w.heap.size + 1 + 1 + 1 + 1, 0, none⟩) 1 1 [xs] :=
  Sl.lit (n := 1) (S := fun _ => True) (us := [.slice Af a3 cf]) (by simp) (RepL.single ⟨_, _, _, rfl, (((h4.alloc _).alloc _).alloc _).alloc _⟩) rfl (by decide) (fun _ _ => trivial) trivial
 refine Sl.lit (n := 4) (S := fun _ => True) (us := [.slice At a1 ct, .slice none 0 0, .slice none 0 0, .slice Ae a2 ce, .slice (some ⟨w.heap.size + 1 + 1, 0, none⟩) 1 1, .slice none 0 0, .slice none 0 0, .slice (some ⟨w.heap.size + 1 + 1 + 1 + 1, 0, none⟩) 1 1]) (by simp) ?_ rfl (by decide) (fun _ _ => trivial) trivial
 exact ⟨_, _, rfl, Cert.mk_ (x := ⟨tl, []⟩) ((((((h1.alloc _).alloc _).alloc _).alloc _).alloc _).alloc _) Sl.nil, _, _, rfl, Cert.mk_ (x := ⟨[], el⟩) Sl.nil ((((((h2.alloc _).alloc _).alloc _).alloc _).alloc _).alloc _), _, _, rfl, Cert.mk_ (x := ⟨[⟨1, -1, il⟩], []⟩) (((st.alloc _).alloc _).alloc _) Sl.nil, RepL.single (Cert.mk_ (x := ⟨[], [xs]⟩) Sl.nil (sf.alloc _))⟩
theorem rep_any (s : ByteArray) (c : Nat) (w : World) (hc : c ≤ 9223372036854775807) (hs : s.size * c ≤ 140737488355328) : Calls Tryz.prog 60 #[.string s, .int .i64 c] w (fun e w' => ∃ t : ByteArray, t.size = c * s.size ∧ e = .returned (.string t) ∧ ∃ u : Ext, w' = w.ext u) := by
 refine (Tryz.strings_Repeat s c w hc hs).mono ?_
 rintro e w' ⟨rfl, hb⟩
 refine ⟨_, ?_, rfl, hb.to_ext⟩
 have := Lib.repeatL_length s.data.toList c
 rw [← size_list] at this
 rw [size_list]
 simpa using this
set_option maxRecDepth 100000 in
set_option maxHeartbeats 32000000 in
theorem many28_any (w : World) (hv : VarsP w) : Calls Tryz.prog 27 #[] w (RetX (.bool true) w) := by
 obtain ⟨g1, hg1⟩ : ∃ g, w.heap.size = g := ⟨_, rfl⟩
 obtain ⟨W0, hW0⟩ : ∃ W, w.alloc (.cells #[.slice none 0 0, .slice none 0 0] 26) = W := ⟨_, rfl⟩
 have hr0 : W0.heap[g1]? = some (.cells #[.slice none 0 0, .slice none 0 0] 26 (0, 0)) := by rw [← hW0, ← hg1]; exact heap_alloc_new w _
 have HB0 := hide (show Below w.heap.size w W0 by rw [← hW0]; exact (Below.refl _ _).alloc (Nat.le_refl _) _)
 have HR0 := hide hr0
 have HV := hide hv
 obtain ⟨i0, hi, hiz, his, hib⟩ := info_parts28 info_Tile28
 have HI0 := hide hi; have HIZ := hide hiz; have HIS := hide his; have HIB := hide hib
 have HSZ0 := hide (show W0.heap.size = g1 + 1 by rw [← hW0, ← hg1]; simp)
 have HW0 := hide hW0; have HG1 := hide hg1
 clear hv hr0 hi hiz his hib hW0 hg1
 go_enter Tryz.func27, Tryz.ntmps27
 go_upto_region 2 with fail
 rw [HW0.out]
 try rw [HG1.out]
 go_wp2_with fail
 go_loopw [2] (fun i wr => ∃ (n : Nat) (v : Value), n ≤ 201 ∧ i = .int .i64 n ∧ Below g1 W0 wr ∧ wr.heap[g1]? = some (.cells #[v, .slice none 0 0] 26 (0, 0)) ∧ OwnL wr (g1 + 1) 35 (fun _ => False) v (List.replicate n tile4)) (fun i _ => 201 - (intOf i).toNat)
 case atStart => exact ⟨0, .slice none 0 0, by omega, rfl, Below.refl _ _, HR0.out, OwnL.nil_ _ _ _ _⟩
 case round =>
  obtain ⟨n, v, hn, rfl, hbw, hrow, hown⟩ := hrel
  obtain ⟨A, c, hvf⟩ := hown.form
  rw [List.length_replicate] at hvf
  subst hvf
  have HBw := hide hbw
  have HO := hide hown
  have cl : g1 < wr.heap.size := (Array.getElem?_eq_some_iff.1 hrow).1
  by_cases hlt : n < 201
  ·have hni : (n : Int) < 201 := by omega
   have HRow := hide hrow
   have c0 : wr.cell? ⟨g1, 0, none⟩ = some (.slice A n c) := cell_of_row wr _ _ _ _ (0, 0) hrow
   clear hbw hrow hown
   go_wp2_with (at_builtin; refine wpList_push (α := Tile) wr [.int .i64 4, .int .i64 0, .slice none 0 0] 35 rfl (.tmp 29) (.tmp 31) 23 rfl (g1 + 1) 35 i0 _ 40 Tryz.underlying23 HI0.out HIZ.out HIS.out HIB.out rfl (by decide) (fun _ => False) (fun _ => False) (.slice A n c) (List.replicate n tile4) tile4 rfl HO.out wr.heap.size rfl rfl (tile4_is _ _) (fun _ h => h) (fun _ _ h => h) (fun _ h => h.elim) (by rw [List.length_replicate]; omega) (by rw [List.length_replicate]; omega) (by omega) ?_; intro v' w' ho1 hgr h5; have HO1 := hide ho1; have HGR := hide hgr; clear ho1 hgr h5; refine Hd.out ?_)
   obtain ⟨A', c', hv'⟩ := HO1.out.form
   rw [List.length_append, List.length_replicate, List.length_singleton] at hv'
   subst hv'
   obtain ⟨hbg, hrg⟩ := box_grown HBw.out cl HO.out HGR.out
   have hr1 := hrg.trans HRow.out
   have HBg := hide hbg; have HR1 := hide hr1
   have c1 : w'.cell? ⟨g1, 0, none⟩ = some (.slice A n c) := cell_of_row w' _ _ _ _ (0, 0) hr1
   have f1 : w'.frozen? ⟨g1, 0, none⟩ = false := by simp [World.frozen?, hr1]
   have l1 : g1 < w'.heap.size := (Array.getElem?_eq_some_iff.1 hr1).1
   clear c0 cl hbg hrg hr1 HGR
   refine hide ?_
   go_wp2_with fail
   go_roundw
   case rel =>
    refine ⟨n + 1, _, by omega, by go_num, HBg.out.setCell (Nat.le_refl _) _, row_setB HR1.out 0 _, ?_⟩
    rw [List.replicate_succ']
    exact HO1.out.setCell (fun h => h) (fun e => by have := (HO1.out.below_ _ e).1; have e2 : (⟨g1, 0, none⟩ : Addr).block = g1 := rfl; omega) _
   case measure => simp [intOf]; omega
  ·have hni : decide ((n : Int) < 201) = false := by simp; omega
   have hs1 : Sl wr (fun b => g1 < b ∧ b < wr.heap.size) A n c (List.replicate n tile4) := (hown.sl (S' := fun b => g1 < b) (fun b _ h => by rcases h with h | h; exact h.elim; show g1 < b; omega)).more fun b hb h => ⟨h, hb⟩
   have HS1 := hide hs1; have HRW1 := hide hrow
   obtain ⟨W1, rfl⟩ : ∃ W, W = wr := ⟨_, rfl⟩
   obtain ⟨g3, hg3⟩ : ∃ g, W1.heap.size = g := ⟨_, rfl⟩
   obtain ⟨W2, hW2⟩ : ∃ W, W1.alloc (.cells #[.slice none 0 0, .slice none 0 0] 26) = W := ⟨_, rfl⟩
   have hr2 : W2.heap[g3]? = some (.cells #[.slice none 0 0, .slice none 0 0] 26 (0, 0)) := by rw [← hW2, ← hg3]; exact heap_alloc_new W1 _
   have hb12 : Below W1.heap.size W1 W2 := by rw [← hW2]; exact (Below.refl _ _).alloc (Nat.le_refl _) _
   have HRW2 := hide hr2
   have HS2 := hide (HS1.out.belowAll hb12)
   have HR12 := hide ((hb12.block g1 cl).trans HRW1.out)
   have HB2 := hide (show Below w.heap.size w W2 from by
    have h1 := HB0.out.trans (HBw.out.mono (by have := HG1.out; omega))
    exact h1.trans (hb12.mono h1.size))
   have HG13 := hide (show g1 < g3 by omega)
   have HSZ2 := hide (show W2.heap.size = g3 + 1 by rw [← hW2, ← hg3]; simp)
   have HW2 := hide hW2; have HG3 := hide hg3
   clear hbw hrow hown hs1 hr2 hb12 hW2 hg3 HO HBw HR0 HS1 HRW1 cl
   go_upto_region 7 with fail
   rw [HW2.out]
   try rw [HG3.out]
   obtain ⟨At, rfl⟩ : ∃ a, a = A := ⟨_, rfl⟩
   obtain ⟨ct, rfl⟩ : ∃ a, a = c := ⟨_, rfl⟩
   obtain ⟨n1, rfl⟩ : ∃ a, a = n := ⟨_, rfl⟩
   have hn1 : 201 ≤ n1 := by omega
   have hn1' : n1 ≤ 201 := by omega
   obtain ⟨j0, hi, hiz, his, hib⟩ := info_parts28 info_Facts28
   have HJ0 := hide hi; have HJZ := hide hiz; have HJS := hide his; have HJB := hide hib
   clear hi hiz his hib hlt hni hn
   go_wp2_with fail
   go_loopw [4] (fun i wr => ∃ (n : Nat) (v : Value), n ≤ 401 ∧ i = .int .i64 n ∧ Below g3 W2 wr ∧ wr.heap[g3]? = some (.cells #[.slice none 0 0, v] 26 (0, 0)) ∧ OwnL wr (g3 + 1) 37 (fun _ => False) v (List.replicate n ([] : List Fact))) (fun i _ => 401 - (intOf i).toNat)
   case atStart => exact ⟨0, .slice none 0 0, by omega, rfl, Below.refl _ _, HRW2.out, OwnL.nil_ _ _ _ _⟩
   case round =>
    obtain ⟨n, v, hn, rfl, hbw, hrow, hown⟩ := hrel
    obtain ⟨A, c, hvf⟩ := hown.form
    rw [List.length_replicate] at hvf
    subst hvf
    have HBw := hide hbw
    have HO := hide hown
    have cl : g3 < wr.heap.size := (Array.getElem?_eq_some_iff.1 hrow).1
    by_cases hlt : n < 401
    ·have hni : (n : Int) < 401 := by omega
     have HRow := hide hrow
     have c0 : wr.cell? ⟨g3, 1, none⟩ = some (.slice A n c) := cell_of_row wr _ _ _ _ (0, 0) hrow
     clear hbw hrow hown
     go_wp2_with (at_builtin; refine wpList_push (α := List Fact) wr [.slice none 0 0] 37 rfl (.tmp 39) (.tmp 40) 24 rfl (g3 + 1) 37 j0 _ 24 Tryz.underlying24 HJ0.out HJZ.out HJS.out HJB.out rfl (by decide) (fun _ => False) (fun _ => False) (.slice A n c) (List.replicate n ([] : List Fact)) [] rfl HO.out wr.heap.size rfl rfl ⟨_, _, _, rfl, Sl.nil⟩ (fun _ h => h) (fun _ _ h => h) (fun _ h => h.elim) (by rw [List.length_replicate]; omega) (by rw [List.length_replicate]; omega) (by omega) ?_; intro v' w' ho1 hgr h5; have HO1 := hide ho1; have HGR := hide hgr; clear ho1 hgr h5; refine Hd.out ?_)
     obtain ⟨A', c', hv'⟩ := HO1.out.form
     rw [List.length_append, List.length_replicate, List.length_singleton] at hv'
     subst hv'
     obtain ⟨hbg, hrg⟩ := box_grown HBw.out cl HO.out HGR.out
     have hr1 := hrg.trans HRow.out
     have HBg := hide hbg; have HR1 := hide hr1
     have c1 : w'.cell? ⟨g3, 1, none⟩ = some (.slice A n c) := cell_of_row w' _ _ _ _ (0, 0) hr1
     have f1 : w'.frozen? ⟨g3, 1, none⟩ = false := by simp [World.frozen?, hr1]
     have l1 : g3 < w'.heap.size := (Array.getElem?_eq_some_iff.1 hr1).1
     clear c0 cl hbg hrg hr1 HGR
     refine hide ?_
     go_wp2_with fail
     go_roundw
     case rel =>
      refine ⟨n + 1, _, by omega, by go_num, HBg.out.setCell (Nat.le_refl _) _, row_setB HR1.out 1 _, ?_⟩
      rw [List.replicate_succ']
      exact HO1.out.setCell (fun h => h) (fun e => by have := (HO1.out.below_ _ e).1; have e2 : (⟨g3, 1, none⟩ : Addr).block = g3 := rfl; omega) _
     case measure => simp [intOf]; omega
    ·have hni : decide ((n : Int) < 401) = false := by simp; omega
     have hs1 : Sl wr (fun b => g3 < b ∧ b < wr.heap.size) A n c (List.replicate n ([] : List Fact)) := (hown.sl (S' := fun b => g3 < b) (fun b _ h => by rcases h with h | h; exact h.elim; show g3 < b; omega)).more fun b hb h => ⟨h, hb⟩
     have HE3 := hide hs1; have HRE3 := hide hrow
     obtain ⟨W3, rfl⟩ : ∃ W, W = wr := ⟨_, rfl⟩
     obtain ⟨Ae, rfl⟩ : ∃ a, a = A := ⟨_, rfl⟩
     obtain ⟨ce, rfl⟩ : ∃ a, a = c := ⟨_, rfl⟩
     obtain ⟨n2, rfl⟩ : ∃ a, a = n := ⟨_, rfl⟩
     have hn2 : 401 ≤ n2 := by omega
     have hn2' : n2 ≤ 401 := by omega
     have HT3 := hide (HS2.out.below HBw.out fun b h => by have := HG3.out; have h : g1 < b ∧ b < W1.heap.size := h; omega)
     have HRT3 := hide ((HBw.out.block g1 HG13.out).trans HR12.out)
     have HB3 := hide (show Below w.heap.size w W3 from HB2.out.trans (HBw.out.mono (by have := HB2.out.size; have := HSZ2.out; have := HG13.out; have := HG1.out; omega)))
     have HL3 := hide cl
     obtain ⟨k0, hi, hiz, his, hib⟩ := info_parts28 (show (Tryz.prog.info? 3).map (fun i => (i.zero, i.size, i.bytes)) = some (some (.int .i64 0), 1, 8) from by kernel_rfl)
     have HK0 := hide hi; have HKZ := hide hiz; have HKS := hide his; have HKB := hide hib
     obtain ⟨l0, hl0, hlz, hls, hlb⟩ := info_parts28 info_Fact28
     have HL0 := hide hl0; have HLZ := hide hlz; have HLS := hide hls; have HLB := hide hlb
     clear hl0 hlz hls hlb
     clear hi hiz his hib hlt hni hn hbw hrow hown hs1 HO HBw HS2 HR12 HB2 HRW2 cl
     go_upto_region 13 with (at_make; refine wpList_make_row _ rfl _ _ 33 rfl 3 k0 _ Tryz.underlying33 HK0.out HKZ.out HKS.out rfl _ _ 201 rfl rfl (by rw [HKB.out]; omega) (by omega) ?_)
     obtain ⟨gz, hgz⟩ : ∃ g, W3.heap.size = g := ⟨_, rfl⟩
     obtain ⟨W4, hW4⟩ : ∃ W, (((((W3.alloc (.cells (madeCells #[.int .i64 0] 201) 3)).alloc (.cells #[.int .i64 1, .int .i64 (-1), .slice (some ⟨W3.heap.size, 0, none⟩) 201 201] 35)).alloc (.cells #[.slice (some ⟨W3.heap.size + 1, 0, none⟩) 1 1, .slice none 0 0] 26)).alloc (.cells #[.slice none 0 0] 37)).alloc (.cells #[.slice none 0 0, .slice (some ⟨W3.heap.size + 1 + 1 + 1, 0, none⟩) 1 1] 26)) = W := ⟨_, rfl⟩
     rw [hW4]
     obtain ⟨q0, q1, q2, q3, q4, q5, q6⟩ := allocs5 W3 _ _ _ _ _ _ _ _ _ _ hW4
     obtain ⟨gr, hgr⟩ : ∃ g, W3.heap.size + 1 + 1 + 1 + 1 = g := ⟨_, rfl⟩
     obtain ⟨gf, hgf⟩ : ∃ g, W3.heap.size + 1 + 1 + 1 = g := ⟨_, rfl⟩
     obtain ⟨gb, hgb⟩ : ∃ g, W3.heap.size + 1 + 1 = g := ⟨_, rfl⟩
     obtain ⟨gt, hgt⟩ : ∃ g, W3.heap.size + 1 = g := ⟨_, rfl⟩
     have HI4 := hide (show Sl W4 (fun b => b = gz) (some ⟨gz, 0, none⟩) 201 201 (List.replicate 201 (0 : Int)) from by
      have h := OwnL.made (α := Int) (n := 201) (S := fun _ => False) (T := 3) (w := W3) (base := W3.heap.size) (x := 0) (z := #[.int .i64 0]) rfl (by decide) ⟨rfl, by decide, by decide⟩ (by unfold maxLen; omega) (Nat.le_refl _) (fun h => h) rfl
      rw [show Rep.size Int = 1 from rfl, Nat.mul_one] at h
      rw [← hW4, ← hgz]
      exact ((((h.slo (S' := fun b => b = W3.heap.size) (fun b _ hb => by
       rcases hb with hb | hb
       ·exact hb.elim
       ·have hb : some W3.heap.size = some b := hb
        injection hb with hb
        exact hb.symm)).alloc _).alloc _).alloc _).alloc _)
     rw [hgr] at q4 q5
     rw [hgf] at q3 q4
     rw [hgb] at q2
     rw [hgt] at q1 q2
     rw [hgz] at q0 q1 q6
     have HQT := hide q1; have HQB := hide q2; have HQF := hide q3; have HQR := hide q4; have HSZ4 := hide q5
     have HGS := hide (show gr = gf + 1 ∧ gf = gb + 1 ∧ gb = gt + 1 ∧ gt = gz + 1 from by omega)
     have HB34 := hide (show Below W3.heap.size W3 W4 by rw [hgz]; exact q6)
     have HT4 := hide (HT3.out.belowAll HB34.out)
     have HE4 := hide (HE3.out.belowAll HB34.out)
     have HRT4 := hide ((HB34.out.block g1 (by have := HL3.out; have := HG13.out; omega)).trans HRT3.out)
     have HRE4 := hide ((HB34.out.block g3 HL3.out).trans HRE3.out)
     have HB4 := hide (show Below w.heap.size w W4 from HB3.out.trans (HB34.out.mono HB3.out.size))
     have HGZ3 := hide (show g3 < gz by have := HL3.out; omega)
     rw [hgr, hgb]
     rw [hgt, hgz]
     have HGZ := hide hgz
     clear q0 q1 q2 q3 q4 q5 q6 hgr hgf hgb hgt hgz hW4 HT3 HE3 HRT3 HRE3 HL3
     go_wp2_with fail
     go_loopw [7] (fun i wr => ∃ (n : Nat) (v : Value) (xs : List Fact), n ≤ 601 ∧ i = .int .i64 n ∧ Below gf W4 wr ∧ wr.heap[gf]? = some (.cells #[v] 37 (0, 0)) ∧ wr.heap[gr]? = some (.cells #[.slice none 0 0, .slice (some ⟨gf, 0, none⟩) 1 1] 26 (0, 0)) ∧ OwnL wr (gr + 1) 42 (fun _ => False) v xs ∧ xs.length = n) (fun i _ => 601 - (intOf i).toNat)
     case atStart => exact ⟨0, .slice none 0 0, [], by omega, rfl, Below.refl _ _, HQF.out, HQR.out, OwnL.nil_ _ _ _ _, rfl⟩
     case round =>
      obtain ⟨n, v, xs, hn, rfl, hbw, hrow, hbox, hown, hxl⟩ := hrel
      have HVF := hide hown.form
      have HBw := hide hbw
      have HO := hide hown
      have HXL := hide hxl
      have HRow := hide hrow; have HBox := hide hbox
      have cl : gf < wr.heap.size := (Array.getElem?_eq_some_iff.1 hrow).1
      have cl2 : gr < wr.heap.size := (Array.getElem?_eq_some_iff.1 hbox).1
      by_cases hlt : n < 601
      ·have hni : (n : Int) < 601 := by omega
       obtain ⟨p, hp⟩ : ∃ q, n % 10 = q := ⟨_, rfl⟩
       have ep : (n : Int).tmod 10 = (p : Int) := by rw [← hp]; exact Int.tmod_eq_emod_of_nonneg (by omega)
       have lp : p < 10 := by omega
       obtain ⟨q, hq⟩ : ∃ q, n / 10 = q := ⟨_, rfl⟩
       have eq : (n : Int).tdiv 10 = (q : Int) := by rw [← hq]; exact Int.tdiv_eq_ediv_of_nonneg (by omega)
       have lq : q ≤ 60 := by omega
       have wq : IntKind.i64.wrap (q : Int) = (q : Int) := IntWalk.i64_in _ (by omega)
       have wq1 : IntKind.i64.wrap (1 + (q : Int)) = 1 + (q : Int) := IntWalk.i64_in _ (by omega)
       have c0 : wr.cell? ⟨gf, 0, none⟩ = some v := cell_of_row wr _ _ _ _ (0, 0) hrow
       have c1 : wr.cell? ⟨gr, 1, none⟩ = some (.slice (some ⟨gf, 0, none⟩) 1 1) := cell_of_row wr _ _ _ _ (0, 0) hbox
       clear hbw hrow hbox hown hxl hp hq
       go_wp2_with fail
       refine wp_region_row_last (v.ownBlock) [13] [12, 13] 15 (by kernel_rfl) rfl rfl rfl (by kernel_rfl) (by kernel_rfl) ?_
       simp only [List.take_succ_cons, List.take_zero]
       repeat (refine flowG_known (by kernel_rfl) (fun K hK => ?_); go_simp; (first | (refine hK _ ?_; clear hK K) | (apply Exists.intro; refine ⟨fun w' => ?_, hK _ ?_⟩; (fail); clear hK K)))
       refine flowG_knownR (by kernel_rfl) (fun K hK => ?_)
       go_simp
       refine ⟨.slice (some ⟨gf, 0, none⟩) 1 1, fun w' hw' => ?_, hK _ ?_⟩
       ·have hc : w'.cell? ⟨gr, 1, none⟩ = some (.slice (some ⟨gf, 0, none⟩) 1 1) := cell_of_row w' _ _ _ _ (0, 0) ((hw'.block gr cl2 (fun e => by have := (HO.out.below_ gr e.symm).1; omega)).trans HBox.out)
        rw [hc]
        exact ⟨rfl, rfl⟩
       clear hK K
       repeat (refine flowG_known (by kernel_rfl) (fun K hK => ?_); go_simp; (first | (refine hK _ ?_; clear hK K) | (apply Exists.intro; refine ⟨fun w' => ?_, hK _ ?_⟩; (fail); clear hK K)))
       repeat (refine flowG_known0 (by kernel_rfl) (by kernel_rfl) (fun K hK => ?_); go_simp; (first | (refine hK _ ?_; clear hK K) | (apply Exists.intro; refine ⟨fun _ => ?_, hK _ ?_⟩; ((go_at_call 24; with_reducible exact fact28_mk _ _ _ _)); clear hK K)))
       refine flowG_keep [] (LitP 42 [.int .i64 (1 + q), .bool true, .int .i64 p] 1) (by kernel_rfl) (LitP.stable_ rfl) (by kernel_rfl) ?_ ?_
       ·intro u hu
        try simp only [List.nil_append, List.cons_append, useH_f, useH_t, useH_nil]
        go_simp
        exact ⟨LitP.mk_ (us := [.int .i64 (1 + q), .bool true, .int .i64 p]) (by rw [size_ext]), onW_row_alloc hu⟩
       refine flowG_keep [true] (PushP (gr + 1) 42 (fun _ => False) v.ownBlock wr.heap.size (xs ++ [(⟨1 + q, ⟨true, p⟩⟩ : Fact)])) (by kernel_rfl) (PushP.stable_ rfl) (by kernel_rfl) ?_ ?_
       ·intro u hu
        try simp only [List.nil_append, List.cons_append, useH_f, useH_t, useH_nil]
        intro v1 hv1
        exact HeldAt.push_own (α := Fact) rfl (.tmp 58) (.tmp 65) 37 rfl (gr + 1) 42 l0 _ 24 Tryz.underlying37 HL0.out HLZ.out HLS.out HLB.out rfl (by decide) (fun _ => False) (fun _ => False) v xs ⟨1 + q, ⟨true, p⟩⟩ [.int .i64 (1 + q), .bool true, .int .i64 p] 42 rfl (HO.out.ext u) (by go_simp) hv1
         (Fact.mk_ (x := ⟨1 + q, ⟨true, p⟩⟩) (by show InI (1 + (q : Int)); unfold InI; omega) (by show InI (p : Int); unfold InI; omega)) (fun _ h => h.elim) (fun g hg h => h) (fun b h => h.elim) (by have := HXL.out; omega) (by have := HXL.out; omega) (by rw [size_ext]; omega) hu
       repeat (refine flowG_known (by kernel_rfl) (fun K hK => ?_); go_simp; (first | (refine hK _ ?_; clear hK K) | (apply Exists.intro; refine ⟨fun w' => ?_, hK _ ?_⟩; (fail); clear hK K)))
       refine flowG_done [false, true] (by kernel_rfl) ?_
       intro w6 h6
       simp only [List.nil_append, List.cons_append, endH_f, endH_t, endH_nil]
       rintro v8 v9 ⟨hown9, hv9, _⟩
       have HW9 := hide hown9; have H6 := hide h6
       obtain ⟨A9, c9, hf9⟩ := hown9.form
       rw [List.length_append, List.length_singleton, HXL.out] at hf9
       subst hf9
       clear hown9 hv9 h6
       have hgs := HGS.out
       have hb6 : w6.heap[gf]? = some (.cells #[v] 37 (0, 0)) := (H6.out.block gf cl (fun e => by have := (HO.out.below_ gf e.symm).1; omega)).trans HRow.out
       have hx6 : w6.heap[gr]? = some (.cells #[.slice none 0 0, .slice (some ⟨gf, 0, none⟩) 1 1] 26 (0, 0)) := (H6.out.block gr cl2 (fun e => by have := (HO.out.below_ gr e.symm).1; omega)).trans HBox.out
       have HB6' := hide hb6; have HX6' := hide hx6
       have HBL6 := hide (show Below gf W4 w6 from HBw.out.grown H6.out (by omega) fun k hk => by have := (HO.out.below_ k hk).1; omega)
       have c6 : w6.cell? ⟨gf, 0, none⟩ = some v := cell_of_row w6 _ _ _ _ (0, 0) hb6
       have f6 : w6.frozen? ⟨gf, 0, none⟩ = false := by simp [World.frozen?, hb6]
       have l6 : gf < w6.heap.size := (Array.getElem?_eq_some_iff.1 hb6).1
       clear hb6 hx6 c0 c1 hgs
       go_wp2_with fail
       go_roundw
       case rel =>
        have hgs := HGS.out
        refine ⟨n + 1, _, xs ++ [(⟨1 + q, ⟨true, p⟩⟩ : Fact)], by omega, by go_num, HBL6.out.setCell (Nat.le_refl _) _, row_setB HB6'.out 0 _, (Below.heap_setCell _ _ _ _ (by show gr ≠ gf; omega)).trans HX6'.out, HW9.out.setCell (fun h => h) (fun e => by have := (HW9.out.below_ _ e).1; have e2 : (⟨gf, 0, none⟩ : Addr).block = gf := rfl; omega) _, by rw [List.length_append, List.length_singleton, HXL.out]⟩
       case measure => simp [intOf]; omega
      ·have hni : decide ((n : Int) < 601) = false := by simp; omega
       obtain ⟨W5, rfl⟩ : ∃ W, W = wr := ⟨_, rfl⟩
       obtain ⟨Af, cf, hvf⟩ := HVF.out
       rw [HXL.out] at hvf
       subst hvf
       have HX5 := hide (show Sl W5 (fun _ => True) Af n cf xs from HO.out.sl fun _ _ _ => trivial)
       have hgs := HGS.out
       have hsz4 := HSZ4.out
       have hgz := HGZ.out
       have HT5 := hide (HT4.out.below HBw.out fun b h => by have h : g1 < b ∧ b < W1.heap.size := h; have := HG3.out; have := HGZ3.out; omega)
       have HE5 := hide (HE4.out.below HBw.out fun b h => by have h : g3 < b ∧ b < W3.heap.size := h; omega)
       have HI5 := hide (HI4.out.below HBw.out fun b h => by have h : b = gz := h; omega)
       have HRT5 := hide ((HBw.out.block g1 (by have := HG13.out; have := HGZ3.out; omega)).trans HRT4.out)
       have HRE5 := hide ((HBw.out.block g3 (by have := HGZ3.out; omega)).trans HRE4.out)
       have HQT5 := hide ((HBw.out.block gt (by omega)).trans HQT.out)
       have HQB5 := hide ((HBw.out.block gb (by omega)).trans HQB.out)
       have HF5 := hide HRow.out
       have HB5 := hide (show Below w.heap.size w W5 from HB4.out.trans (HBw.out.mono (by have := HB3.out.size; omega)))
       have HN3 := hide (show 601 ≤ n ∧ n ≤ 601 from ⟨by omega, hn⟩)
       obtain ⟨n3, rfl⟩ : ∃ a, a = n := ⟨_, rfl⟩
       have HXS := hide (show xs.length ≤ 601 from by have := HXL.out; have := HN3.out; omega)
       clear hgs hsz4 hgz hlt hn hbw hbox hrow hown hxl HO HBw HT4 HE4 HI4 HRT4 HRE4 HQT HQB HQF HQR HB4 HB34 HRow cl cl2 HVF HXL
       have hkt : n1 ≤ ct := HT5.out.2.1; have hke : n2 ≤ ce := HE5.out.2.1; have hkf : n3 ≤ cf := HX5.out.2.1
       have hn3 := HN3.out.1
       obtain ⟨bt, ot, hAt, _⟩ := HT5.out.2.2.2.2 (by omega)
       obtain ⟨be, oe, hAe, _⟩ := HE5.out.2.2.2.2 (by omega)
       obtain ⟨bf, of_, hAf, _⟩ := HX5.out.2.2.2.2 (by omega)
       subst hAt hAe hAf
       go_wp2_with fail
       go_loopw [8] (fun i wr => ∃ d : Nat, d ≤ 2 ∧ i = .int .i64 d ∧ Below W5.heap.size W5 wr) (fun i _ => 2 - (intOf i).toNat)
       case atStart => exact ⟨0, by omega, rfl, Below.refl _ _⟩
       case round =>
        obtain ⟨d, hd, rfl, hbw⟩ := hrel
        have HBw := hide hbw
        by_cases hlt : d < 2
        ·have hdi : (d : Int) < 2 := by omega
         obtain ⟨a1, ha1⟩ : ∃ a, 200 + d = a := ⟨_, rfl⟩
         obtain ⟨a2, ha2⟩ : ∃ a, 400 + d = a := ⟨_, rfl⟩
         obtain ⟨a3, ha3⟩ : ∃ a, 600 + d = a := ⟨_, rfl⟩
         have e1 : (200 : Int) + (d : Int) = (a1 : Int) := by omega
         have e2 : (400 : Int) + (d : Int) = (a2 : Int) := by omega
         have e3 : (600 : Int) + (d : Int) = (a3 : Int) := by omega
         have w1 : IntKind.i64.wrap (a1 : Int) = (a1 : Int) := IntWalk.i64_in _ (by omega)
         have w2 : IntKind.i64.wrap (a2 : Int) = (a2 : Int) := IntWalk.i64_in _ (by omega)
         have w3 : IntKind.i64.wrap (a3 : Int) = (a3 : Int) := IntWalk.i64_in _ (by omega)
         have l1 : a1 ≤ n1 := by omega
         have l1' : a1 ≤ 201 := by omega
         have l2 : a2 ≤ n2 := by omega
         have l3 : a3 ≤ n3 := by have := HN3.out; omega
         have y1 : a1 ≤ ct := by omega
         have y2 : a2 ≤ ce := by omega
         have y3 : a3 ≤ cf := by omega
         have HT6 := hide ((HT5.out.belowAll hbw).take_ l1)
         have HE6 := hide ((HE5.out.belowAll hbw).take_ l2)
         have HI6 := hide ((HI5.out.belowAll hbw).take_ l1')
         have HX6 := hide ((HX5.out.belowAll hbw).take_ l3)
         have blk : ∀ {g : Nat} {cs : Array Value} {T : TypeId}, W5.heap[g]? = some (.cells cs T (0, 0)) → wr.heap[g]? = some (.cells cs T (0, 0)) := fun h => (hbw.block _ (Array.getElem?_eq_some_iff.1 h).1).trans h
         have q1 := blk HRT5.out; have q3 := blk HRE5.out; have qt := blk HQT5.out; have qb := blk HQB5.out; have qf := blk HF5.out; have qr := blk HBox.out
         have c1 : wr.cell? ⟨g1, 0, none⟩ = some (.slice (some ⟨bt, ot, none⟩) n1 ct) := cell_of_row wr _ _ _ _ (0, 0) q1
         have c3 : wr.cell? ⟨g3, 1, none⟩ = some (.slice (some ⟨be, oe, none⟩) n2 ce) := cell_of_row wr _ _ _ _ (0, 0) q3
         have cb : wr.cell? ⟨gb, 0, none⟩ = some (.slice (some ⟨gt, 0, none⟩) 1 1) := cell_of_row wr _ _ _ _ (0, 0) qb
         have ctt : wr.cell? ⟨gt, 2, none⟩ = some (.slice (some ⟨gz, 0, none⟩) 201 201) := cell_of_row wr _ _ _ _ (0, 0) qt
         have cr : wr.cell? ⟨gr, 1, none⟩ = some (.slice (some ⟨gf, 0, none⟩) 1 1) := cell_of_row wr _ _ _ _ (0, 0) qr
         have cff : wr.cell? ⟨gf, 0, none⟩ = some (.slice (some ⟨bf, of_, none⟩) n3 cf) := cell_of_row wr _ _ _ _ (0, 0) qf
         have z1 : g1 < wr.heap.size := (Array.getElem?_eq_some_iff.1 q1).1
         have z3 : g3 < wr.heap.size := (Array.getElem?_eq_some_iff.1 q3).1
         have zb : gb < wr.heap.size := (Array.getElem?_eq_some_iff.1 qb).1
         have zt : gt < wr.heap.size := (Array.getElem?_eq_some_iff.1 qt).1
         have zr : gr < wr.heap.size := (Array.getElem?_eq_some_iff.1 qr).1
         have zf : gf < wr.heap.size := (Array.getElem?_eq_some_iff.1 qf).1
         clear hbw ha1 ha2 ha3 blk q1 q3 qt qb qf qr
         go_upto_region 25 with fail
         obtain ⟨W6, hW6⟩ : ∃ W, ((((((wr.alloc (.cells #[.slice (some ⟨bt, ot, none⟩) a1 ct, .slice none 0 0] 26)).alloc (.cells #[.slice none 0 0, .slice (some ⟨be, oe, none⟩) a2 ce] 26)).alloc (.cells #[.int .i64 1, .int .i64 (-1), .slice (some ⟨gz, 0, none⟩) a1 201] 35)).alloc (.cells #[.slice (some ⟨wr.heap.size + 1 + 1, 0, none⟩) 1 1, .slice none 0 0] 26)).alloc (.cells #[.slice (some ⟨bf, of_, none⟩) a3 cf] 37)).alloc (.cells #[.slice none 0 0, .slice (some ⟨wr.heap.size + 1 + 1 + 1 + 1, 0, none⟩) 1 1] 26)).alloc (.cells #[.slice (some ⟨bt, ot, none⟩) a1 ct, .slice none 0 0, .slice none 0 0, .slice (some ⟨be, oe, none⟩) a2 ce, .slice (some ⟨wr.heap.size + 1 + 1, 0, none⟩) 1 1, .slice none 0 0, .slice none 0 0, .slice (some ⟨wr.heap.size + 1 + 1 + 1 + 1, 0, none⟩) 1 1] 26) = W := ⟨_, rfl⟩
         rw [hW6]
         obtain ⟨hs4, hb4⟩ := certs4 wr _ _ _ ct ce cf a1 a2 a3 gz _ _ _ _ (HT6.out.more fun _ _ _ => trivial) (HE6.out.more fun _ _ _ => trivial) (HI6.out.more fun _ _ _ => trivial) (HX6.out.more fun _ _ _ => trivial) hW6
         obtain ⟨g6, hg6⟩ : ∃ g, wr.heap.size + 1 + 1 + 1 + 1 + 1 + 1 = g := ⟨_, rfl⟩
         rw [hg6] at hs4 ⊢
         obtain ⟨cl4, hcl4⟩ : ∃ l, [(⟨(List.replicate n1 tile4).take a1, []⟩ : Cert), ⟨[], (List.replicate n2 ([] : List Fact)).take a2⟩, ⟨[⟨1, -1, (List.replicate 201 (0 : Int)).take a1⟩], []⟩, ⟨[], [xs.take a3]⟩] = l := ⟨_, rfl⟩
         rw [hcl4] at hs4
         have HCL := hide (show ∀ x ∈ cl4, (∀ t ∈ x.tiles, t.blocks.length ≤ 140737488355328) ∧ ∀ l ∈ x.facts, l.length ≤ 140737488355328 from by
          rw [← hcl4]
          intro x hx
          simp only [List.mem_cons, List.not_mem_nil, or_false] at hx
          rcases hx with rfl | rfl | rfl | rfl
          ·refine ⟨fun t ht => ?_, fun l hl => (by cases hl)⟩
           have := List.eq_of_mem_replicate (List.mem_of_mem_take ht)
           rw [this]; decide
          ·refine ⟨fun t ht => (by cases ht), fun l hl => ?_⟩
           have := List.eq_of_mem_replicate (List.mem_of_mem_take hl)
           rw [this]; decide
          ·refine ⟨fun t ht => ?_, fun l hl => (by cases hl)⟩
           rw [List.mem_singleton] at ht
           subst ht
           show ((List.replicate 201 (0 : Int)).take a1).length ≤ _
           rw [List.length_take, List.length_replicate]; omega
          ·refine ⟨fun t ht => (by cases ht), fun l hl => ?_⟩
           rw [List.mem_singleton] at hl
           subst hl
           rw [List.length_take]; have := HXS.out; omega)
         have HS4 := hide hs4
         have HBw6 := hide (show Below W5.heap.size W5 W6 from HBw.out.trans (hb4.mono HBw.out.size))
         have HV6 := hide (show VarsP W6 from HV.out.below (HB5.out.trans (HBw6.out.mono HB5.out.size)) HV.out.v.sz)
         clear hs4 hb4 hcl4 hg6 hW6 HT6 HE6 HI6 HX6 c1 c3 cb ctt cr cff z1 z3 zb zt zr zf e1 e2 e3 w1 w2 w3 l1 l1' l2 l3 y1 y2 y3 HBw
         obtain ⟨wo, rfl⟩ : ∃ V, V = wr := ⟨_, rfl⟩
         go_wp2_with fail
         go_loopw [14] (fun i wr => ∃ j : Nat, j ≤ 4 ∧ i = .int .i64 j ∧ Below W6.heap.size W6 wr) (fun i _ => 4 - (intOf i).toNat)
         case atStart => exact ⟨0, by omega, rfl, Below.refl _ _⟩
         case round =>
          obtain ⟨j, hj, rfl, hbw⟩ := hrel
          have HBw := hide hbw
          by_cases hlj : j < 4
          ·have hji : (j : Int) < 4 := by omega
           have HSw := hide (HS4.out.belowAll hbw)
           obtain ⟨b, off, x, A1, m1, k1, A2, m2, k2, hA, hb, hx, s1, s2, x0, x1⟩ := at_Cert HSw.out hlj
           injection hA with hA
           injection hA with hA1 hA2
           subst hA1 hA2
           simp only [Nat.zero_add] at x0 x1
           have hxm := HCL.out x (List.mem_of_getElem? hx)
           have hi1 : InI 1 := by unfold InI; omega
           have HC1 := hide (fun u : Ext => show Calls Tryz.prog 4 #[.agg #[.slice A1 m1 k1, .slice A2 m2 k2], .agg #[.int .i64 1, .bool true, .int .i64 1], .agg #[.int .i64 1, .bool true, .int .i64 1]] (wr.ext u) (RetX (.bool true) (wr.ext u)) from certPrints_any (wr.ext u) _ _ A1 A2 m1 k1 m2 k2 x ⟨1, ⟨true, 1⟩⟩ ⟨1, ⟨true, 1⟩⟩ (s1.ext u) (s2.ext u) hxm.1 hxm.2 ⟨hi1, hi1⟩ ⟨hi1, hi1⟩ ((HV6.out.below hbw HV6.out.v.sz).ext u))
           clear hbw hx s1 s2 hxm hi1
           go_wp2_with fail
           refine wp_region_flow_ext [] [] (by kernel_rfl) rfl (by kernel_rfl) ?_
           repeat (refine flow_known (by kernel_rfl) (fun K hK => ?_); go_simp; (first | (refine hK _ ?_; clear hK K) | (apply Exists.intro; refine ⟨fun _ => ?_, hK _ ?_⟩; (first | (go_at_call 24; with_reducible exact fact28_mk _ _ _ _) | (go_at_call 4; with_reducible exact HC1.out _)); clear hK K)))
           refine flow_done [] (by kernel_rfl) ?_
           intro u
           simp only [List.nil_append, List.cons_append, endH_f, endH_t, endH_nil]
           go_simp
           go_wp2_with fail
           go_roundw
           case rel => exact ⟨j + 1, by omega, by go_num, HBw.out.ext HBw.out.size u⟩
           case measure => simp [intOf]; omega
          ·have hji : decide ((j : Int) < 4) = false := by simp; omega
           go_wp2_with fail
           go_roundw
           case rel => exact ⟨d + 1, by omega, by go_num, HBw6.out.trans (hbw.mono HBw6.out.size)⟩
           case measure => simp [intOf]; omega
        ·have hdi : decide ((d : Int) < 2) = false := by simp; omega
         have HB6 := hide (show Below w.heap.size w wr from HB5.out.trans (HBw.out.mono HB5.out.size))
         have HV6 := hide (show VarsP wr from HV.out.below HB6.out HV.out.v.sz)
         obtain ⟨W6, rfl⟩ : ∃ W, W = wr := ⟨_, rfl⟩
         clear hbw HBw HT5 HE5 HI5 HX5 HRT5 HRE5 HQT5 HQB5 HF5 HBox HB5
         have HBc := hide (Below.refl W6.heap.size W6)
         have HRA := hide (fun W : World => show Calls Tryz.prog 60 #[.string ⟨#[116, 105, 108, 101, 32, 99, 111, 110, 100, 32, 48, 32, 58, 10]⟩, .int .i64 201] W (fun e w' => ∃ t : ByteArray, t.size = 2814 ∧ e = .returned (.string t) ∧ ∃ u : Ext, w' = W.ext u) from rep_any ⟨#[116, 105, 108, 101, 32, 99, 111, 110, 100, 32, 48, 32, 58, 10]⟩ 201 W (by decide) (by decide))
         have HRB := hide (fun W : World => show Calls Tryz.prog 60 #[.string ⟨#[101, 100, 103, 101, 10]⟩, .int .i64 401] W (fun e w' => ∃ t : ByteArray, t.size = 2005 ∧ e = .returned (.string t) ∧ ∃ u : Ext, w' = W.ext u) from rep_any ⟨#[101, 100, 103, 101, 10]⟩ 401 W (by decide) (by decide))
         have HRC := hide (fun W : World => show Calls Tryz.prog 60 #[.string ⟨#[32, 55]⟩, .int .i64 201] W (fun e w' => ∃ t : ByteArray, t.size = 402 ∧ e = .returned (.string t) ∧ ∃ u : Ext, w' = W.ext u) from rep_any ⟨#[32, 55]⟩ 201 W (by decide) (by decide))
         have HRD := hide (fun W : World => show Calls Tryz.prog 60 #[.string ⟨#[32]⟩, .int .i64 262145] W (fun e w' => ∃ t : ByteArray, t.size = 262145 ∧ e = .returned (.string t) ∧ ∃ u : Ext, w' = W.ext u) from rep_any ⟨#[32]⟩ 262145 W (by decide) (by decide))
         have HPS := hide (fun (W : World) (hb : Below W6.heap.size W6 W) (t : ByteArray) (ht : t.size ≤ 1048576) => certParses_any W (HV6.out.below hb HV6.out.v.sz) t (by omega))
         have HLONG := hide (fun (W : World) (t : ByteArray) (ht : t.size = 262145) => parse28_long t W (by omega))
         go_upto_region 33 with (first
          | (go_at_call 60; (with_reducible refine (HRA.out _).mono ?_); rintro e V ⟨ts, hzs, rfl, u, hV⟩; replace HBc := hide (show Below W6.heap.size W6 V by rw [hV]; exact HBc.out.ext HBc.out.size u); clear hV u)
          | (go_at_call 60; (with_reducible refine (HRB.out _).mono ?_); rintro e V ⟨tt, hzt, rfl, u, hV⟩; replace HBc := hide (show Below W6.heap.size W6 V by rw [hV]; exact HBc.out.ext HBc.out.size u); clear hV u)
          | (go_at_call 60; (with_reducible refine (HRC.out _).mono ?_); rintro e V ⟨tu, hzu, rfl, u, hV⟩; replace HBc := hide (show Below W6.heap.size W6 V by rw [hV]; exact HBc.out.ext HBc.out.size u); clear hV u; obtain ⟨tw, htw⟩ : ∃ t, (⟨#[116, 105, 108, 101, 32, 108, 111, 111, 112, 32, 48, 32, 58]⟩ : ByteArray) ++ tu = t := ⟨_, rfl⟩; have hzw : tw.size = 415 := (by rw [← htw, ByteArray.size_append, hzu]; rfl); have hsm : (⟨#[116, 105, 108, 101, 32, 108, 111, 111, 112, 32, 48, 32, 58]⟩ : ByteArray).size + tu.size ≤ 9223372036854775807 := (by rw [hzu]; decide))
          | (simp (disch := (first | omega | assumption)) only [run_string_add_sum]))
         obtain ⟨W7, rfl⟩ : ∃ W, W = V := ⟨_, rfl⟩
         have HB7 := hide HBc.out
         have HDG := hide (fun (W : World) (n : Nat) (hn : n < 1000) => digits_any W n hn)
         clear HBc htw hsm hzu HRA HRB HRC
         go_wp2_with fail
         go_loopw [18, 19] (fun s i wr => ∃ (t : ByteArray) (n : Nat), s = .string t ∧ i = .int .i64 n ∧ 1 ≤ n ∧ n ≤ 400 ∧ t.size ≤ 12 + 10 * n ∧ Below W6.heap.size W6 wr) (fun _ i _ => 400 - (intOf i).toNat)
         case atStart => exact ⟨_, 1, rfl, rfl, by omega, by omega, by decide, HB7.out⟩
         case round =>
          obtain ⟨t, n, rfl, rfl, h1n, hn4, htz, hbw⟩ := hrel
          have HBc := hide hbw
          clear hbw
          by_cases hlt : n < 400
          ·have hni : (n : Int) < 400 := by omega
           have HDN := hide (fun W : World => HDG.out W n (by omega))
           obtain ⟨tn, htn⟩ : ∃ x, t ++ (⟨#[44, 118, 49, 61, 115]⟩ : ByteArray) = x := ⟨_, rfl⟩
           have htnz : tn.size ≤ 17 + 10 * n := by rw [← htn, ByteArray.size_append]; have : (⟨#[44, 118, 49, 61, 115]⟩ : ByteArray).size = 5 := rfl; omega
           have hs1 : t.size + (⟨#[44, 118, 49, 61, 115]⟩ : ByteArray).size ≤ 9223372036854775807 := by have : (⟨#[44, 118, 49, 61, 115]⟩ : ByteArray).size = 5 := rfl; omega
           go_wp2_with (first
            | (go_at_call 61; (with_reducible refine (HDN.out _).mono ?_); rintro e V ⟨td, hdz, rfl, u, hV⟩; replace HBc := hide (show Below W6.heap.size W6 V by rw [hV]; exact HBc.out.ext HBc.out.size u); clear hV u; have hs2 : tn.size + td.size ≤ 9223372036854775807 := (by omega))
            | (simp (disch := (first | omega | assumption)) only [run_string_add_sum]))
           go_roundw
           case rel => exact ⟨tn ++ td, n + 1, rfl, by go_num, by omega, by omega, by rw [ByteArray.size_append]; omega, HBc.out⟩
           case measure => simp [intOf]; omega
          ·have hni : decide ((n : Int) < 400) = false := by simp; omega
           have htz2 : t.size ≤ 4012 := by omega
           clear hlt HDG
           go_wp2_with (first
            | (go_at_call 60; (with_reducible refine (HRD.out _).mono ?_); rintro e V ⟨tz, hzz, rfl, u, hV⟩; replace HBc := hide (show Below W6.heap.size W6 V by rw [hV]; exact HBc.out.ext HBc.out.size u); clear hV u)
            | (go_at_call 8; (with_reducible refine (HLONG.out _ _ hzz).mono ?_); rintro e U ⟨rfl, hbl⟩; have HBl := hide (show Below W6.heap.size W6 U from HBc.out.trans (hbl.mono HBc.out.size)); clear hbl hzz; refine Hd.out ?_))
           obtain ⟨W9, hW9⟩ : ∃ W', U.alloc (.cells #[.slice none 0 0, .slice none 0 0] 26) = W' := ⟨_, rfl⟩
           have HB9 := hide (show Below W6.heap.size W6 W9 from by rw [← hW9]; exact HBl.out.alloc HBl.out.size _)
           have HW9 := hide hW9
           clear hW9 HBl HBc
           have HBc := hide HB9.out
           refine hide ?_
           go_upto_region 39 with fail
           rw [HW9.out]
           go_wp2_with (go_at_call 3; (with_reducible refine (HPS.out _ HBc.out _ (by first | omega | (rw [ByteArray.size_extract]; omega))).mono ?_); rintro e V ⟨rfl, u, hV⟩; replace HBc := hide (show Below W6.heap.size W6 V by rw [hV]; exact HBc.out.ext HBc.out.size u); clear hV u)
           go_ret
           exact RetX.b rfl (HB6.out.trans (HBc.out.mono HB6.out.size))
end Go.Proofs.YtppkanniefignaaGreatDoor
namespace Go.Proofs.YtppkanniefignaaGreatDoor
open Go.RowKit Go.Maps
theorem certWords_any (w : World) (hv : VarsQ w) : Calls Tryz.prog 6 #[] w (RetX (.bool true) w) := certWords_of w hv many28_any
end Go.Proofs.YtppkanniefignaaGreatDoor
