/- law28: walks: tiles that are the same; marks. law28: the document's side: SameCert and what it calls. -/
import Derived.Test.YtppkanniefignaaGreatDoorG20
import Derived.Test.YtppkanniefignaaGreatDoorG21
set_option linter.unusedSimpArgs false
set_option linter.unusedVariables false
namespace Go.Proofs.YtppkanniefignaaGreatDoor
open Go.RowKit Go.Maps
theorem at_factRow {w : World} {S : Nat → Prop} {A : Option Addr} {n c : Nat} {xs : List (List Fact)} (h : Sl w S A n c xs) {k : Nat} (hk : k < n) :
  ∃ b off, ∃ x : List Fact, ∃ A1 n1 c1, A = some ⟨b, off, none⟩ ∧ b < w.heap.size ∧ xs[k]? = some x ∧ Sl w S A1 n1 c1 x ∧ w.cell? ⟨b, off + k, none⟩ = some (.slice A1 n1 c1) := by
 obtain ⟨b, off, x, us, e, hb, _, hx, hus, hc⟩ := h.at_ hk
 obtain ⟨A1, n1, c1, rfl, hs⟩ := hus
 refine ⟨b, off, x, A1, n1, c1, e, hb, hx, hs, ?_⟩
 have := hc 0 _ rfl
 simpa [Rep.size] using this
theorem sameTile28_any (w : World) (S S' : Nat → Prop) (A0 A0' : Option Addr) (n0 c0 c0' : Nat) (x : Tile) (h0 : Sl w S A0 n0 c0 x.blocks) (h0' : Sl w S' A0' n0 c0' x.blocks) :
  Calls Tryz.prog 96 #[.agg #[.int .i64 x.kind, .int .i64 x.parent, .slice A0 n0 c0], .agg #[.int .i64 x.kind, .int .i64 x.parent, .slice A0' n0 c0']] w (RetX (.bool true) w) := by
 have H0 := hide h0; clear h0
 have H0' := hide h0'; clear h0'
 go_enter Tryz.func96, Tryz.ntmps96
 go_wp2_with (first | (go_at_call 142; refine (sameInts_any _ S S' A0 A0' n0 c0 c0' x.blocks (by repeat (first | assumption | exact Hd.out (by assumption) | apply Sl.alloc | apply Sl.ext | apply Sl.drew | apply Sl.drewN)) (by repeat (first | assumption | exact Hd.out (by assumption) | apply Sl.alloc | apply Sl.ext | apply Sl.drew | apply Sl.drewN))).mono ?_; rintro e _ ⟨rfl, ux, rfl⟩))
 go_ret
 exact RetX.b rfl (by repeat (first | exact Below.refl _ _ | assumption | refine Below.alloc ?_ (by simp [size_ext]; try omega) _ | refine Below.ext ?_ (by simp [size_ext]; try omega) _ | refine Below.drew ?_ | refine Below.setCell ?_ (by simp [size_ext]; try omega) _))
theorem mark28_any (k i : Int) (w : World) (hk : 0 ≤ k ∧ k ≤ 100000000) (hi : 0 ≤ i ∧ i ≤ 1152921504606846976) : Calls Tryz.prog 43 #[.int .i64 k, .int .i64 i] w (Ret (.int .i64 (markI k i)) w) := by
 obtain ⟨k1, k2⟩ := hk
 obtain ⟨i1, i2⟩ := hi
 go_enter Tryz.func43, Tryz.ntmps43
 go_wp2; go_ret; exact Ret.i rfl
set_option maxRecDepth 100000 in
set_option maxHeartbeats 4000000 in
theorem markFact28_any (k i : Int) (w : World) (hk : 0 ≤ k ∧ k ≤ 100000000) (hi : 0 ≤ i ∧ i ≤ 1152921504606846976) : Calls Tryz.prog 44 #[.int .i64 k, .int .i64 i] w (RetX (.agg #[.int .i64 (markI k i), .bool false, .int .i64 0]) w) := by
 obtain ⟨mm, hmm⟩ : ∃ m, markI k i = m := ⟨_, rfl⟩
 have HMA := hide (fun W => show Calls Tryz.prog 43 #[.int .i64 k, .int .i64 i] W (Ret (.int .i64 mm) W) from hmm ▸ mark28_any k i W hk hi)
 rw [hmm]
 clear hmm hk hi
 go_enter Tryz.func44, Tryz.ntmps44
 go_wp2_with (first | (go_at_call 43; (with_reducible refine (HMA.out _).mono ?_); rintro e _ ⟨rfl, rfl⟩))
 refine bodyPost_ret (results_cell_row Tryz.results44 _ _ w.heap.size _ _ (0, 0) _ rfl (heap_alloc_new w _) Tryz.underlying42 rfl (by kernel_rfl)) rfl ?_
 exact ⟨rfl, Below.to_ext ((Below.refl _ _).alloc (Nat.le_refl _) _)⟩
theorem OwnL.at_own {α : Type} [Rep α] {w : World} {base : Nat} {T : TypeId} {S : Nat → Prop} {A : Option Addr} {n c : Nat} {xs : List α} (h : OwnL w base T S (.slice A n c) xs) {k : Nat} (hk : k < n) :
  ∃ g x us, A = some ⟨g, 0, none⟩ ∧ base ≤ g ∧ g < w.heap.size ∧ ¬ S g ∧ xs[k]? = some x ∧ Rep.is w S x us ∧ ∀ j u, us[j]? = some u → w.cell? ⟨g, k * Rep.size α + j, none⟩ = some u := by
 obtain ⟨vals, ⟨h1, h⟩, hr, hap⟩ := h
 rcases h with ⟨e, h0⟩ | ⟨g, cap, cur, e, hg, hh, hnc, hcm, hsz, htake⟩
 ·injection e with e1 e2 e3
  omega
 ·injection e with e1 e2 e3
  subst e1 e2 e3
  have hgl : g < w.heap.size := (Array.getElem?_eq_some_iff.1 hh).1
  obtain ⟨us, hus, hc⟩ := hr.at_ (List.getElem?_eq_getElem hk)
  refine ⟨g, xs[k], us, rfl, hg, hgl, hap g rfl, List.getElem?_eq_getElem hk, hus, fun j u hj => ?_⟩
  rw [cell_of_row w g _ cur T (0, 0) hh]
  have := hc j u hj
  rw [← htake, List.getElem?_take] at this
  split at this
  ·simpa using this
  ·cases this
end Go.Proofs.YtppkanniefignaaGreatDoor
namespace Go.Proofs.YtppkanniefignaaGreatDoor
open Go.RowKit Go.Maps
theorem sameFacts28_any (w : World) (S S' : Nat → Prop) (A A' : Option Addr) (n c c' : Nat) (xs : List Fact) (h : Sl w S A n c xs) (h' : Sl w S' A' n c' xs) :
  Calls Tryz.prog 97 #[.slice A n c, .slice A' n c'] w (RetX (.bool true) w) := by
 have hn := h.nle
 have HS := hide h; clear h
 have HS' := hide h'; clear h'
 go_enter Tryz.func97, Tryz.ntmps97
 go_wp2
 go_loopw [5] (fun i wr => ∃ k : Nat, k ≤ n ∧ i = .int .i64 k ∧ ∃ u, wr = w.ext u) (fun i _ => n - (intOf i).toNat)
 case atStart => exact ⟨0, Nat.zero_le _, rfl, ext_refl _⟩
 case round =>
  obtain ⟨k, hk, rfl, u, rfl⟩ := hrel
  by_cases hlt : k < n
  ·obtain ⟨b, off, x, rfl, hb, hx, -, -, d0, d1, d2⟩ := at_Fact HS.out hlt
   obtain ⟨b', off', x', rfl, hb', hx', -, -, e0, e1, e2⟩ := at_Fact HS'.out hlt
   obtain rfl := some_eq hx hx'
   have EQ : ∀ w : World, (Op.equalIn 10000 42 (.agg #[.int .i64 x.var, .bool x.loc.slot, .int .i64 x.loc.n]) (.agg #[.int .i64 x.var, .bool x.loc.slot, .int .i64 x.loc.n])).run Tryz.prog w = .ok true w := fun w => by have h := eq_fact_run x x w; rw [decide_eq_true rfl] at h; exact h
   clear hx hx'
   go_wp2
   refine wp_region_ext (by kernel_rfl) (by kernel_rfl) ?_
   repeat (any_goals (first | go_big_quiet_step ((fail)) | quiet_step ((fail))))
   refine wpQuiet_nil ?_
   rintro _ ⟨uq, rfl⟩
   go_wp2
   go_roundw
   case rel => exact ⟨k + 1, by omega, by go_num, Below.to_ext (by repeat (first | exact Below.refl _ _ | assumption | refine Below.alloc ?_ (by simp [size_ext]; try omega) _ | refine Below.ext ?_ (by simp [size_ext]; try omega) _ | refine Below.drew ?_ | refine Below.setCell ?_ (by simp [size_ext]; try omega) _))⟩
   case measure => simp [intOf]; omega
  ·go_wp2
   go_ret
   exact RetX.b rfl (by repeat (first | exact Below.refl _ _ | assumption | refine Below.alloc ?_ (by simp [size_ext]; try omega) _ | refine Below.ext ?_ (by simp [size_ext]; try omega) _ | refine Below.drew ?_ | refine Below.setCell ?_ (by simp [size_ext]; try omega) _))
theorem sameFactRows28_any (w : World) (S S' : Nat → Prop) (A A' : Option Addr) (n c c' : Nat) (xs : List (List Fact)) (h : Sl w S A n c xs) (h' : Sl w S' A' n c' xs) :
  Calls Tryz.prog 42 #[.slice A n c, .slice A' n c'] w (RetX (.bool true) w) := by
 have hn := h.nle
 have HS := hide h; clear h
 have HS' := hide h'; clear h'
 go_enter Tryz.func42, Tryz.ntmps42
 go_wp2
 go_loopw [5] (fun i wr => ∃ k : Nat, k ≤ n ∧ i = .int .i64 k ∧ ∃ u, wr = w.ext u) (fun i _ => n - (intOf i).toNat)
 case atStart => exact ⟨0, Nat.zero_le _, rfl, ext_refl _⟩
 case round =>
  obtain ⟨k, hk, rfl, u, rfl⟩ := hrel
  by_cases hlt : k < n
  ·obtain ⟨b, off, x, A0, n0, c0, rfl, hb, hx, hs0, d0⟩ := at_factRow HS.out hlt
   obtain ⟨b', off', x', A0', n0', c0', rfl, hb', hx', hs'0, e0⟩ := at_factRow HS'.out hlt
   obtain rfl := some_eq hx hx'
   clear hx hx'
   obtain rfl : n0 = n0' := hs0.len.symm.trans hs'0.len
   have HI0 := hide hs0; have HI0' := hide hs'0
   clear hs0 hs'0
   go_wp2
   refine wp_region_ext (by kernel_rfl) (by kernel_rfl) ?_
   repeat (any_goals (first | go_big_quiet_step (((go_at_call 97; exact quiet_retx (sameFacts28_any _ S S' A0 A0' n0 c0 c0' x (by repeat (first | assumption | exact Hd.out (by assumption) | apply Sl.alloc | apply Sl.ext | apply Sl.drew | apply Sl.drewN)) (by repeat (first | assumption | exact Hd.out (by assumption) | apply Sl.alloc | apply Sl.ext | apply Sl.drew | apply Sl.drewN)))))) | quiet_step (((go_at_call 97; exact quiet_retx (sameFacts28_any _ S S' A0 A0' n0 c0 c0' x (by repeat (first | assumption | exact Hd.out (by assumption) | apply Sl.alloc | apply Sl.ext | apply Sl.drew | apply Sl.drewN)) (by repeat (first | assumption | exact Hd.out (by assumption) | apply Sl.alloc | apply Sl.ext | apply Sl.drew | apply Sl.drewN))))))))
   refine wpQuiet_nil ?_
   rintro _ ⟨uq, rfl⟩
   go_wp2
   go_roundw
   case rel => exact ⟨k + 1, by omega, by go_num, Below.to_ext (by repeat (first | exact Below.refl _ _ | assumption | refine Below.alloc ?_ (by simp [size_ext]; try omega) _ | refine Below.ext ?_ (by simp [size_ext]; try omega) _ | refine Below.drew ?_ | refine Below.setCell ?_ (by simp [size_ext]; try omega) _))⟩
   case measure => simp [intOf]; omega
  ·go_wp2
   go_ret
   exact RetX.b rfl (by repeat (first | exact Below.refl _ _ | assumption | refine Below.alloc ?_ (by simp [size_ext]; try omega) _ | refine Below.ext ?_ (by simp [size_ext]; try omega) _ | refine Below.drew ?_ | refine Below.setCell ?_ (by simp [size_ext]; try omega) _))
theorem sameTiles28_any (w : World) (S S' : Nat → Prop) (A A' : Option Addr) (n c c' : Nat) (xs : List Tile) (h : Sl w S A n c xs) (h' : Sl w S' A' n c' xs) :
  Calls Tryz.prog 41 #[.slice A n c, .slice A' n c'] w (RetX (.bool true) w) := by
 have hn := h.nle
 have HS := hide h; clear h
 have HS' := hide h'; clear h'
 go_enter Tryz.func41, Tryz.ntmps41
 go_wp2
 go_loopw [5] (fun i wr => ∃ k : Nat, k ≤ n ∧ i = .int .i64 k ∧ ∃ u, wr = w.ext u) (fun i _ => n - (intOf i).toNat)
 case atStart => exact ⟨0, Nat.zero_le _, rfl, ext_refl _⟩
 case round =>
  obtain ⟨k, hk, rfl, u, rfl⟩ := hrel
  by_cases hlt : k < n
  ·obtain ⟨b, off, x, A0, n0, c0, rfl, hb, hx, -, -, hs0, d0, d1, d2⟩ := at_Tile HS.out hlt
   obtain ⟨b', off', x', A0', n0', c0', rfl, hb', hx', -, -, hs'0, e0, e1, e2⟩ := at_Tile HS'.out hlt
   obtain rfl := some_eq hx hx'
   clear hx hx'
   obtain rfl : n0 = n0' := hs0.len.symm.trans hs'0.len
   have HI0 := hide hs0; have HI0' := hide hs'0
   clear hs0 hs'0
   go_wp2
   refine wp_region_ext (by kernel_rfl) (by kernel_rfl) ?_
   repeat (any_goals (first | go_big_quiet_step (((go_at_call 96; exact quiet_retx (sameTile28_any _ S S' A0 A0' n0 c0 c0' x (by repeat (first | assumption | exact Hd.out (by assumption) | apply Sl.alloc | apply Sl.ext | apply Sl.drew | apply Sl.drewN)) (by repeat (first | assumption | exact Hd.out (by assumption) | apply Sl.alloc | apply Sl.ext | apply Sl.drew | apply Sl.drewN)))))) | quiet_step (((go_at_call 96; exact quiet_retx (sameTile28_any _ S S' A0 A0' n0 c0 c0' x (by repeat (first | assumption | exact Hd.out (by assumption) | apply Sl.alloc | apply Sl.ext | apply Sl.drew | apply Sl.drewN)) (by repeat (first | assumption | exact Hd.out (by assumption) | apply Sl.alloc | apply Sl.ext | apply Sl.drew | apply Sl.drewN))))))))
   refine wpQuiet_nil ?_
   rintro _ ⟨uq, rfl⟩
   go_wp2
   go_roundw
   case rel => exact ⟨k + 1, by omega, by go_num, Below.to_ext (by repeat (first | exact Below.refl _ _ | assumption | refine Below.alloc ?_ (by simp [size_ext]; try omega) _ | refine Below.ext ?_ (by simp [size_ext]; try omega) _ | refine Below.drew ?_ | refine Below.setCell ?_ (by simp [size_ext]; try omega) _))⟩
   case measure => simp [intOf]; omega
  ·go_wp2
   go_ret
   exact RetX.b rfl (by repeat (first | exact Below.refl _ _ | assumption | refine Below.alloc ?_ (by simp [size_ext]; try omega) _ | refine Below.ext ?_ (by simp [size_ext]; try omega) _ | refine Below.drew ?_ | refine Below.setCell ?_ (by simp [size_ext]; try omega) _))
theorem sameCert28_any (w : World) (S S' S2 S2' : Nat → Prop) (A A' B B' : Option Addr) (n k k' m j j' : Nat) (x : Cert) (h : Sl w S A n k x.tiles) (h' : Sl w S' A' n k' x.tiles) (g : Sl w S2 B m j x.facts) (g' : Sl w S2' B' m j' x.facts) :
  Calls Tryz.prog 10 #[.agg #[.slice A n k, .slice B m j], .agg #[.slice A' n k', .slice B' m j']] w (RetX (.bool true) w) := by
 have H0 := hide h; clear h
 have H0' := hide h'; clear h'
 have G0 := hide g; clear g
 have G0' := hide g'; clear g'
 go_enter Tryz.func10, Tryz.ntmps10
 go_wp2_with (first | (go_at_call 41; refine (sameTiles28_any _ S S' A A' n k k' x.tiles (by repeat (first | assumption | exact Hd.out (by assumption) | apply Sl.alloc | apply Sl.ext | apply Sl.drew | apply Sl.drewN)) (by repeat (first | assumption | exact Hd.out (by assumption) | apply Sl.alloc | apply Sl.ext | apply Sl.drew | apply Sl.drewN))).mono ?_; rintro e _ ⟨rfl, ux, rfl⟩) | (go_at_call 42; refine (sameFactRows28_any _ S2 S2' B B' m j j' x.facts (by repeat (first | assumption | exact Hd.out (by assumption) | apply Sl.alloc | apply Sl.ext | apply Sl.drew | apply Sl.drewN)) (by repeat (first | assumption | exact Hd.out (by assumption) | apply Sl.alloc | apply Sl.ext | apply Sl.drew | apply Sl.drewN))).mono ?_; rintro e _ ⟨rfl, ux, rfl⟩))
 go_ret
 exact RetX.b rfl (by repeat (first | exact Below.refl _ _ | assumption | refine Below.alloc ?_ (by simp [size_ext]; try omega) _ | refine Below.ext ?_ (by simp [size_ext]; try omega) _ | refine Below.drew ?_ | refine Below.setCell ?_ (by simp [size_ext]; try omega) _))
end Go.Proofs.YtppkanniefignaaGreatDoor
