/- law28: walks: certificates that are the same; rows that are written over. law28: CertParses: its walk. -/
import Derived.Test.YtppkanniefignaaGreatDoorG17
import Derived.Test.YtppkanniefignaaGreatDoorG20
import Derived.Test.YtppkanniefignaaGreatDoorG21
import Derived.Test.YtppkanniefignaaGreatDoorW2
set_option linter.unusedSimpArgs false
set_option linter.unusedVariables false
namespace Go.Proofs.YtppkanniefignaaGreatDoor
open Go.RowKit Go.Maps

/-! ### the same -/
theorem sameFacts28_any (w : World) (S S' : Nat → Prop) (A A' : Option Addr) (n c c' : Nat) (xs : List Fact) (h : Sl w S A n c xs) (h' : Sl w S' A' n c' xs) :
    Calls Tryz.prog 97 #[.slice A n c, .slice A' n c'] w (RetX (.bool true) w) := by
  have hn := h.nle
  have HS := hide h; clear h
  have HS' := hide h'; clear h'
  go_enter Tryz.func97, Tryz.ntmps97
  go_wp2
  go_loopw [5] (fun i wr => ∃ k : Nat, k ≤ n ∧ i = .int .i64 k ∧ ∃ u, wr = w.ext u) (fun i _ => n - (intOf i).toNat)
  case atStart => exact ⟨0, Nat.zero_le _, rfl, ext_refl _⟩
  case round =>
    obtain ⟨k, hk, rfl, u, rfl⟩ := hrel
    by_cases hlt : k < n
    · obtain ⟨b, off, x, rfl, hb, hx, -, -, d0, d1, d2⟩ := at_Fact HS.out hlt
      obtain ⟨b', off', x', rfl, hb', hx', -, -, e0, e1, e2⟩ := at_Fact HS'.out hlt
      obtain rfl := some_eq hx hx'
      have EQ : ∀ w : World, (Op.equalIn 10000 42 (.agg #[.int .i64 x.var, .bool x.loc.slot, .int .i64 x.loc.n]) (.agg #[.int .i64 x.var, .bool x.loc.slot, .int .i64 x.loc.n])).run Tryz.prog w = .ok true w := fun w => by have h := eq_fact_run x x w; rw [decide_eq_true rfl] at h; exact h
      clear hx hx'
      go_wp2
      refine wp_region_ext (by kernel_rfl) (by kernel_rfl) ?_
      repeat (any_goals (first | go_big_quiet_step ((fail)) | quiet_step ((fail))))
      refine wpQuiet_nil ?_
      rintro _ ⟨uq, rfl⟩
      go_wp2
      go_roundw
      case rel => exact ⟨k + 1, by omega, by go_num, Below.to_ext (by repeat (first | exact Below.refl _ _ | assumption | refine Below.alloc ?_ (by simp [size_ext]; try omega) _ | refine Below.ext ?_ (by simp [size_ext]; try omega) _ | refine Below.drew ?_ | refine Below.setCell ?_ (by simp [size_ext]; try omega) _))⟩
      case measure => simp [intOf]; omega
    · go_wp2
      go_ret
      exact RetX.b rfl (by repeat (first | exact Below.refl _ _ | assumption | refine Below.alloc ?_ (by simp [size_ext]; try omega) _ | refine Below.ext ?_ (by simp [size_ext]; try omega) _ | refine Below.drew ?_ | refine Below.setCell ?_ (by simp [size_ext]; try omega) _))
theorem at_factRow {w : World} {S : Nat → Prop} {A : Option Addr} {n c : Nat} {xs : List (List Fact)} (h : Sl w S A n c xs) {k : Nat} (hk : k < n) :
    ∃ b off, ∃ x : List Fact, ∃ A1 n1 c1, A = some ⟨b, off, none⟩ ∧ b < w.heap.size ∧ xs[k]? = some x ∧ Sl w S A1 n1 c1 x ∧ w.cell? ⟨b, off + k, none⟩ = some (.slice A1 n1 c1) := by
  obtain ⟨b, off, x, us, e, hb, _, hx, hus, hc⟩ := h.at_ hk
  obtain ⟨A1, n1, c1, rfl, hs⟩ := hus
  refine ⟨b, off, x, A1, n1, c1, e, hb, hx, hs, ?_⟩
  have := hc 0 _ rfl
  simpa [Rep.size] using this
theorem sameFactRows28_any (w : World) (S S' : Nat → Prop) (A A' : Option Addr) (n c c' : Nat) (xs : List (List Fact)) (h : Sl w S A n c xs) (h' : Sl w S' A' n c' xs) :
    Calls Tryz.prog 42 #[.slice A n c, .slice A' n c'] w (RetX (.bool true) w) := by
  have hn := h.nle
  have HS := hide h; clear h
  have HS' := hide h'; clear h'
  go_enter Tryz.func42, Tryz.ntmps42
  go_wp2
  go_loopw [5] (fun i wr => ∃ k : Nat, k ≤ n ∧ i = .int .i64 k ∧ ∃ u, wr = w.ext u) (fun i _ => n - (intOf i).toNat)
  case atStart => exact ⟨0, Nat.zero_le _, rfl, ext_refl _⟩
  case round =>
    obtain ⟨k, hk, rfl, u, rfl⟩ := hrel
    by_cases hlt : k < n
    · obtain ⟨b, off, x, A0, n0, c0, rfl, hb, hx, hs0, d0⟩ := at_factRow HS.out hlt
      obtain ⟨b', off', x', A0', n0', c0', rfl, hb', hx', hs'0, e0⟩ := at_factRow HS'.out hlt
      obtain rfl := some_eq hx hx'
      clear hx hx'
      obtain rfl : n0 = n0' := hs0.len.symm.trans hs'0.len
      have HI0 := hide hs0; have HI0' := hide hs'0
      clear hs0 hs'0
      go_wp2
      refine wp_region_ext (by kernel_rfl) (by kernel_rfl) ?_
      repeat (any_goals (first | go_big_quiet_step (((go_at_call 97; exact quiet_retx (sameFacts28_any _ S S' A0 A0' n0 c0 c0' x (by repeat (first | assumption | exact Hd.out (by assumption) | apply Sl.alloc | apply Sl.ext | apply Sl.drew | apply Sl.drewN)) (by repeat (first | assumption | exact Hd.out (by assumption) | apply Sl.alloc | apply Sl.ext | apply Sl.drew | apply Sl.drewN)))))) | quiet_step (((go_at_call 97; exact quiet_retx (sameFacts28_any _ S S' A0 A0' n0 c0 c0' x (by repeat (first | assumption | exact Hd.out (by assumption) | apply Sl.alloc | apply Sl.ext | apply Sl.drew | apply Sl.drewN)) (by repeat (first | assumption | exact Hd.out (by assumption) | apply Sl.alloc | apply Sl.ext | apply Sl.drew | apply Sl.drewN))))))))
      refine wpQuiet_nil ?_
      rintro _ ⟨uq, rfl⟩
      go_wp2
      go_roundw
      case rel => exact ⟨k + 1, by omega, by go_num, Below.to_ext (by repeat (first | exact Below.refl _ _ | assumption | refine Below.alloc ?_ (by simp [size_ext]; try omega) _ | refine Below.ext ?_ (by simp [size_ext]; try omega) _ | refine Below.drew ?_ | refine Below.setCell ?_ (by simp [size_ext]; try omega) _))⟩
      case measure => simp [intOf]; omega
    · go_wp2
      go_ret
      exact RetX.b rfl (by repeat (first | exact Below.refl _ _ | assumption | refine Below.alloc ?_ (by simp [size_ext]; try omega) _ | refine Below.ext ?_ (by simp [size_ext]; try omega) _ | refine Below.drew ?_ | refine Below.setCell ?_ (by simp [size_ext]; try omega) _))
theorem sameTile28_any (w : World) (S S' : Nat → Prop) (A0 A0' : Option Addr) (n0 c0 c0' : Nat) (x : Tile) (h0 : Sl w S A0 n0 c0 x.blocks) (h0' : Sl w S' A0' n0 c0' x.blocks) :
    Calls Tryz.prog 96 #[.agg #[.int .i64 x.kind, .int .i64 x.parent, .slice A0 n0 c0], .agg #[.int .i64 x.kind, .int .i64 x.parent, .slice A0' n0 c0']] w (RetX (.bool true) w) := by
  have H0 := hide h0; clear h0
  have H0' := hide h0'; clear h0'
  go_enter Tryz.func96, Tryz.ntmps96
  go_wp2_with (first | (go_at_call 142; refine (sameInts_any _ S S' A0 A0' n0 c0 c0' x.blocks (by repeat (first | assumption | exact Hd.out (by assumption) | apply Sl.alloc | apply Sl.ext | apply Sl.drew | apply Sl.drewN)) (by repeat (first | assumption | exact Hd.out (by assumption) | apply Sl.alloc | apply Sl.ext | apply Sl.drew | apply Sl.drewN))).mono ?_; rintro e _ ⟨rfl, ux, rfl⟩))
  go_ret
  exact RetX.b rfl (by repeat (first | exact Below.refl _ _ | assumption | refine Below.alloc ?_ (by simp [size_ext]; try omega) _ | refine Below.ext ?_ (by simp [size_ext]; try omega) _ | refine Below.drew ?_ | refine Below.setCell ?_ (by simp [size_ext]; try omega) _))
theorem sameTiles28_any (w : World) (S S' : Nat → Prop) (A A' : Option Addr) (n c c' : Nat) (xs : List Tile) (h : Sl w S A n c xs) (h' : Sl w S' A' n c' xs) :
    Calls Tryz.prog 41 #[.slice A n c, .slice A' n c'] w (RetX (.bool true) w) := by
  have hn := h.nle
  have HS := hide h; clear h
  have HS' := hide h'; clear h'
  go_enter Tryz.func41, Tryz.ntmps41
  go_wp2
  go_loopw [5] (fun i wr => ∃ k : Nat, k ≤ n ∧ i = .int .i64 k ∧ ∃ u, wr = w.ext u) (fun i _ => n - (intOf i).toNat)
  case atStart => exact ⟨0, Nat.zero_le _, rfl, ext_refl _⟩
  case round =>
    obtain ⟨k, hk, rfl, u, rfl⟩ := hrel
    by_cases hlt : k < n
    · obtain ⟨b, off, x, A0, n0, c0, rfl, hb, hx, -, -, hs0, d0, d1, d2⟩ := at_Tile HS.out hlt
      obtain ⟨b', off', x', A0', n0', c0', rfl, hb', hx', -, -, hs'0, e0, e1, e2⟩ := at_Tile HS'.out hlt
      obtain rfl := some_eq hx hx'
      clear hx hx'
      obtain rfl : n0 = n0' := hs0.len.symm.trans hs'0.len
      have HI0 := hide hs0; have HI0' := hide hs'0
      clear hs0 hs'0
      go_wp2
      refine wp_region_ext (by kernel_rfl) (by kernel_rfl) ?_
      repeat (any_goals (first | go_big_quiet_step (((go_at_call 96; exact quiet_retx (sameTile28_any _ S S' A0 A0' n0 c0 c0' x (by repeat (first | assumption | exact Hd.out (by assumption) | apply Sl.alloc | apply Sl.ext | apply Sl.drew | apply Sl.drewN)) (by repeat (first | assumption | exact Hd.out (by assumption) | apply Sl.alloc | apply Sl.ext | apply Sl.drew | apply Sl.drewN)))))) | quiet_step (((go_at_call 96; exact quiet_retx (sameTile28_any _ S S' A0 A0' n0 c0 c0' x (by repeat (first | assumption | exact Hd.out (by assumption) | apply Sl.alloc | apply Sl.ext | apply Sl.drew | apply Sl.drewN)) (by repeat (first | assumption | exact Hd.out (by assumption) | apply Sl.alloc | apply Sl.ext | apply Sl.drew | apply Sl.drewN))))))))
      refine wpQuiet_nil ?_
      rintro _ ⟨uq, rfl⟩
      go_wp2
      go_roundw
      case rel => exact ⟨k + 1, by omega, by go_num, Below.to_ext (by repeat (first | exact Below.refl _ _ | assumption | refine Below.alloc ?_ (by simp [size_ext]; try omega) _ | refine Below.ext ?_ (by simp [size_ext]; try omega) _ | refine Below.drew ?_ | refine Below.setCell ?_ (by simp [size_ext]; try omega) _))⟩
      case measure => simp [intOf]; omega
    · go_wp2
      go_ret
      exact RetX.b rfl (by repeat (first | exact Below.refl _ _ | assumption | refine Below.alloc ?_ (by simp [size_ext]; try omega) _ | refine Below.ext ?_ (by simp [size_ext]; try omega) _ | refine Below.drew ?_ | refine Below.setCell ?_ (by simp [size_ext]; try omega) _))
theorem sameCert28_any (w : World) (S S' S2 S2' : Nat → Prop) (A A' B B' : Option Addr) (n k k' m j j' : Nat) (x : Cert) (h : Sl w S A n k x.tiles) (h' : Sl w S' A' n k' x.tiles) (g : Sl w S2 B m j x.facts) (g' : Sl w S2' B' m j' x.facts) :
    Calls Tryz.prog 10 #[.agg #[.slice A n k, .slice B m j], .agg #[.slice A' n k', .slice B' m j']] w (RetX (.bool true) w) := by
  have H0 := hide h; clear h
  have H0' := hide h'; clear h'
  have G0 := hide g; clear g
  have G0' := hide g'; clear g'
  go_enter Tryz.func10, Tryz.ntmps10
  go_wp2_with (first | (go_at_call 41; refine (sameTiles28_any _ S S' A A' n k k' x.tiles (by repeat (first | assumption | exact Hd.out (by assumption) | apply Sl.alloc | apply Sl.ext | apply Sl.drew | apply Sl.drewN)) (by repeat (first | assumption | exact Hd.out (by assumption) | apply Sl.alloc | apply Sl.ext | apply Sl.drew | apply Sl.drewN))).mono ?_; rintro e _ ⟨rfl, ux, rfl⟩) | (go_at_call 42; refine (sameFactRows28_any _ S2 S2' B B' m j j' x.facts (by repeat (first | assumption | exact Hd.out (by assumption) | apply Sl.alloc | apply Sl.ext | apply Sl.drew | apply Sl.drewN)) (by repeat (first | assumption | exact Hd.out (by assumption) | apply Sl.alloc | apply Sl.ext | apply Sl.drew | apply Sl.drewN))).mono ?_; rintro e _ ⟨rfl, ux, rfl⟩))
  go_ret
  exact RetX.b rfl (by repeat (first | exact Below.refl _ _ | assumption | refine Below.alloc ?_ (by simp [size_ext]; try omega) _ | refine Below.ext ?_ (by simp [size_ext]; try omega) _ | refine Below.drew ?_ | refine Below.setCell ?_ (by simp [size_ext]; try omega) _))

/-! ### written over -/
/-- Just cells of blocks of T are written, and blocks more. -/
structure Ovr (w w' : World) (T : Nat → Prop) : Prop where
  os : w'.os = w.os
  tape : w'.tape = w.tape
  output : w'.output = w.output
  size : w.heap.size ≤ w'.heap.size
  block : ∀ b, b < w.heap.size → ¬ T b → w'.heap[b]? = w.heap[b]?
  same : ∀ (b : Nat) (cur : Array Value) (ty : TypeId), w.heap[b]? = some (Obj.cells cur ty (0, 0)) → ∃ cur' : Array Value, w'.heap[b]? = some (.cells cur' ty (0, 0)) ∧ cur'.size = cur.size
section
variable {w w' w'' : World} {T T' : Nat → Prop}
theorem Ovr.refl (w : World) (T : Nat → Prop) : Ovr w w T := ⟨rfl, rfl, rfl, Nat.le_refl _, fun _ _ _ => rfl, fun _ cur _ h => ⟨cur, h, rfl⟩⟩
theorem Ovr.trans (h : Ovr w w' T) (h' : Ovr w' w'' T) : Ovr w w'' T :=
  ⟨h'.os.trans h.os, h'.tape.trans h.tape, h'.output.trans h.output, Nat.le_trans h.size h'.size, fun b hb hT => (h'.block b (Nat.lt_of_lt_of_le hb h.size) hT).trans (h.block b hb hT), fun b cur ty hc => by
    obtain ⟨c1, h1, e1⟩ := h.same b cur ty hc
    obtain ⟨c2, h2, e2⟩ := h'.same b c1 ty h1
    exact ⟨c2, h2, e2.trans e1⟩⟩
theorem Ovr.mono (h : Ovr w w' T) (hT : ∀ b, T b → T' b) : Ovr w w' T' := ⟨h.os, h.tape, h.output, h.size, fun b hb hn => h.block b hb fun e => hn (hT b e), h.same⟩
theorem Ovr.of_below (h : Below w.heap.size w w') : Ovr w w' T := ⟨h.os, h.tape, h.output, h.size, fun b hb _ => h.block b hb, fun b cur _ hc => ⟨cur, (h.block b (Array.getElem?_eq_some_iff.1 hc).1).trans hc, rfl⟩⟩
theorem Ovr.set (w : World) {g j : Nat} (hg : T g) (x : Value) : Ovr w (w.setCell ⟨g, j, none⟩ x) T :=
  ⟨rfl, rfl, rfl, by simp, fun b _ hT => Below.heap_setCell w ⟨g, j, none⟩ x b (fun e => hT (e ▸ hg)), fun b cur ty hc => by
    by_cases hb : b = g
    · subst hb
      exact ⟨_, row_setB hc j x, by simp⟩
    · exact ⟨cur, (Below.heap_setCell w ⟨g, j, none⟩ x b hb).trans hc, rfl⟩⟩
theorem Ovr.below (h : Ovr w w' T) {B : Nat} (hB : B ≤ w.heap.size) (hT : ∀ b, T b → B ≤ b) : Below B w w' := ⟨h.os, h.tape, h.output, h.size, fun b hb => h.block b (by omega) (fun e => by have := hT b e; omega)⟩
theorem Ovr.room (h : Ovr w w' T) {S : Nat → Prop} {sz c : Nat} {A : Option Addr} (hr : Room w S sz A c) : Room w' S sz A c := by
  rcases hr with hr | ⟨g, cur, ty, e, h1, h2, h3, h4⟩
  · exact .inl hr
  · obtain ⟨cur', g1, g2⟩ := h.same g cur ty h3
    exact .inr ⟨g, cur', ty, e, h1, Nat.lt_of_lt_of_le h2 h.size, g1, g2.trans h4⟩
theorem Ovr.own (h : Ovr w w' T) {α : Type} [Rep α] {base : Nat} {ty : TypeId} {S : Nat → Prop} {v : Value} {xs : List α} (ho : OwnL w base ty S v xs) (hS : ∀ b, S b → ¬ T b) (hv : ∀ g, v.ownBlock = some g → ¬ T g) : OwnL w' base ty S v xs :=
  ho.keep h.size (fun b hb hl => h.block b hl (hS b hb)) fun g hg => h.block g (ho.below_ g hg).2 (hv g hg)
end
theorem mark28_any (k i : Int) (w : World) (hk : 0 ≤ k ∧ k ≤ 100000000) (hi : 0 ≤ i ∧ i ≤ 1152921504606846976) : Calls Tryz.prog 43 #[.int .i64 k, .int .i64 i] w (Ret (.int .i64 (markI k i)) w) := by
  obtain ⟨k1, k2⟩ := hk
  obtain ⟨i1, i2⟩ := hi
  go_enter Tryz.func43, Tryz.ntmps43
  go_wp2; go_ret; exact Ret.i rfl
set_option maxRecDepth 100000 in
set_option maxHeartbeats 8000000 in
theorem overInts28_any (w : World) (S : Nat → Prop) (A : Option Addr) (n c : Nat) (hr : Room w S 1 A c) (hnc : n ≤ c) (hc : c ≤ 9223372036854775807) (hn : n ≤ 1099511627776) :
    Calls Tryz.prog 11 #[.slice A n c] w (fun e w' => e = .returned (.tuple #[]) ∧ Ovr w w' S) := by
  rcases hr with ⟨rfl, rfl⟩ | ⟨g, cur, ty, rfl, hS, hg, hrow, hsz⟩
  · have h0 : n = 0 := by omega
    subst h0
    go_enter Tryz.func11, Tryz.ntmps11
    go_wp2_with fail
    go_loopw [3] (fun i wr => i = .int .i64 0 ∧ wr = w) (fun _ _ => 0)
    case atStart => exact ⟨rfl, rfl⟩
    case round =>
      obtain ⟨rfl, rfl⟩ := hrel
      go_wp2_with fail
      go_end0
      exact ⟨rfl, Ovr.refl _ _⟩
  · rw [Nat.mul_one] at hsz
    obtain ⟨L, hL⟩ : ∃ L, min c (n + 12) = L := ⟨_, rfl⟩
    have hLc : L ≤ c := by omega
    have hLb : L ≤ 1099511627788 := by omega
    have hmin : min (c : Int) ((n : Int) + 12) = (L : Int) := by omega
    have HS := hide hS; have HROW := hide hrow; have HSZ := hide hsz
    clear hL hS hrow hsz
    go_enter Tryz.func11, Tryz.ntmps11
    go_wp2_with fail
    go_loopw [3] (fun i wr => ∃ k : Nat, k ≤ L ∧ i = .int .i64 k ∧ Ovr w wr S) (fun i _ => L - (intOf i).toNat)
    case atStart => exact ⟨0, Nat.zero_le _, rfl, Ovr.refl _ _⟩
    case round =>
      obtain ⟨k, hk, rfl, hov⟩ := hrel
      have HOV := hide hov
      clear hov
      by_cases hlt : k < L
      · obtain ⟨cur', h1, h2⟩ := HOV.out.same g cur ty HROW.out
        have h3 := HSZ.out
        have hkc : k < cur'.size := by omega
        have k0 : wr.cell? ⟨g, k, none⟩ = some cur'[k] := by rw [cell_of_row wr g k cur' ty (0, 0) h1]; exact Array.getElem?_eq_getElem hkc
        have f0 : wr.frozen? ⟨g, k, none⟩ = false := by simp [World.frozen?, h1]
        generalize cur'[k] = u0 at k0
        clear hkc
        have gl : g < wr.heap.size := (Array.getElem?_eq_some_iff.1 h1).1
        clear h1 h2 h3
        have hkL : (k : Int) < L := by omega
        obtain ⟨mm, hmm⟩ : ∃ m, markI 2 k = m := ⟨_, rfl⟩
        have HMA := hide (fun W => show Calls Tryz.prog 43 #[.int .i64 2, .int .i64 k] W (Ret (.int .i64 mm) W) from hmm ▸ mark28_any 2 k W ⟨by omega, by omega⟩ ⟨by omega, by omega⟩)
        clear hmm
        go_wp2_with (first | (go_at_call 43; (with_reducible refine (HMA.out _).mono ?_); rintro e _ ⟨rfl, rfl⟩))
        have HO2 := hide (HOV.out.trans (Ovr.set wr (j := k) HS.out (.int .i64 mm)))
        go_roundw
        case rel => exact ⟨k + 1, by omega, by go_num, HO2.out⟩
        case measure => simp [intOf]; omega
      · go_wp2_with fail
        go_end0
        exact ⟨rfl, HOV.out⟩
set_option maxRecDepth 100000 in
set_option maxHeartbeats 4000000 in
theorem markFact28_any (k i : Int) (w : World) (hk : 0 ≤ k ∧ k ≤ 100000000) (hi : 0 ≤ i ∧ i ≤ 1152921504606846976) : Calls Tryz.prog 44 #[.int .i64 k, .int .i64 i] w (RetX (.agg #[.int .i64 (markI k i), .bool false, .int .i64 0]) w) := by
  obtain ⟨mm, hmm⟩ : ∃ m, markI k i = m := ⟨_, rfl⟩
  have HMA := hide (fun W => show Calls Tryz.prog 43 #[.int .i64 k, .int .i64 i] W (Ret (.int .i64 mm) W) from hmm ▸ mark28_any k i W hk hi)
  rw [hmm]
  clear hmm hk hi
  go_enter Tryz.func44, Tryz.ntmps44
  go_wp2_with (first | (go_at_call 43; (with_reducible refine (HMA.out _).mono ?_); rintro e _ ⟨rfl, rfl⟩))
  refine bodyPost_ret (results_cell_row Tryz.results44 _ _ w.heap.size _ _ (0, 0) _ rfl (heap_alloc_new w _) Tryz.underlying42 rfl (by kernel_rfl)) rfl ?_
  exact ⟨rfl, Below.to_ext ((Below.refl _ _).alloc (Nat.le_refl _) _)⟩
set_option maxRecDepth 100000 in
set_option maxHeartbeats 8000000 in
theorem overFacts28_any (w : World) (S : Nat → Prop) (A : Option Addr) (n c : Nat) (hr : Room w S 3 A c) (hnc : n ≤ c) (hc : c ≤ 9223372036854775807) (hn : n ≤ 1099511627776) :
    Calls Tryz.prog 12 #[.slice A n c] w (fun e w' => e = .returned (.tuple #[]) ∧ Ovr w w' S) := by
  rcases hr with ⟨rfl, rfl⟩ | ⟨g, cur, ty, rfl, hS, hg, hrow, hsz⟩
  · have h0 : n = 0 := by omega
    subst h0
    go_enter Tryz.func12, Tryz.ntmps12
    go_wp2_with fail
    go_loopw [3] (fun i wr => i = .int .i64 0 ∧ wr = w) (fun _ _ => 0)
    case atStart => exact ⟨rfl, rfl⟩
    case round =>
      obtain ⟨rfl, rfl⟩ := hrel
      go_wp2_with fail
      go_end0
      exact ⟨rfl, Ovr.refl _ _⟩
  · obtain ⟨L, hL⟩ : ∃ L, min c (n + 12) = L := ⟨_, rfl⟩
    have hLc : L ≤ c := by omega
    have hLb : L ≤ 1099511627788 := by omega
    have hmin : min (c : Int) ((n : Int) + 12) = (L : Int) := by omega
    have HS := hide hS; have HROW := hide hrow; have HSZ := hide hsz
    clear hL hS hrow hsz
    go_enter Tryz.func12, Tryz.ntmps12
    go_wp2_with fail
    go_loopw [3] (fun i wr => ∃ k : Nat, k ≤ L ∧ i = .int .i64 k ∧ Ovr w wr S) (fun i _ => L - (intOf i).toNat)
    case atStart => exact ⟨0, Nat.zero_le _, rfl, Ovr.refl _ _⟩
    case round =>
      obtain ⟨k, hk, rfl, hov⟩ := hrel
      have HOV := hide hov
      clear hov
      by_cases hlt : k < L
      · obtain ⟨cur', h1, h2⟩ := HOV.out.same g cur ty HROW.out
        have h3 := HSZ.out
        have hc0 : k * 3 < cur'.size := by omega
        have hc1 : k * 3 + 1 < cur'.size := by omega
        have hc2 : k * 3 + 2 < cur'.size := by omega
        have k0 : wr.cell? ⟨g, k * 3, none⟩ = some cur'[k * 3] := by rw [cell_of_row wr g (k * 3) cur' ty (0, 0) h1]; exact Array.getElem?_eq_getElem hc0
        have k1 : wr.cell? ⟨g, k * 3 + 1, none⟩ = some cur'[k * 3 + 1] := by rw [cell_of_row wr g (k * 3 + 1) cur' ty (0, 0) h1]; exact Array.getElem?_eq_getElem hc1
        have k2 : wr.cell? ⟨g, k * 3 + 2, none⟩ = some cur'[k * 3 + 2] := by rw [cell_of_row wr g (k * 3 + 2) cur' ty (0, 0) h1]; exact Array.getElem?_eq_getElem hc2
        have f0 : wr.frozen? ⟨g, k * 3, none⟩ = false := by simp [World.frozen?, h1]
        have f1 : wr.frozen? ⟨g, k * 3 + 1, none⟩ = false := by simp [World.frozen?, h1]
        have f2 : wr.frozen? ⟨g, k * 3 + 2, none⟩ = false := by simp [World.frozen?, h1]
        generalize cur'[k * 3] = u0 at k0
        generalize cur'[k * 3 + 1] = u1 at k1
        generalize cur'[k * 3 + 2] = u2 at k2
        clear hc0 hc1 hc2
        have gl : g < wr.heap.size := (Array.getElem?_eq_some_iff.1 h1).1
        clear h1 h2 h3
        have hkL : (k : Int) < L := by omega
        obtain ⟨mm, hmm⟩ : ∃ m, markI 2 k = m := ⟨_, rfl⟩
        have HMA := hide (fun W => show Calls Tryz.prog 44 #[.int .i64 2, .int .i64 k] W (RetX (.agg #[.int .i64 mm, .bool false, .int .i64 0]) W) from hmm ▸ markFact28_any 2 k W ⟨by omega, by omega⟩ ⟨by omega, by omega⟩)
        clear hmm
        go_wp2_with (first | (go_at_call 44; (with_reducible refine (HMA.out _).mono ?_); rintro e _ ⟨rfl, ux, rfl⟩))
        have HO2 := hide (show Ovr w ((((wr.setCell ⟨g, k * 3, none⟩ (.int .i64 mm)).setCell ⟨g, k * 3 + 1, none⟩ (.bool false)).setCell ⟨g, k * 3 + 2, none⟩ (.int .i64 0)).ext ux) S from (((HOV.out.trans (Ovr.set wr HS.out _)).trans (Ovr.set _ HS.out _)).trans (Ovr.set _ HS.out _)).trans (Ovr.of_below (Below.of_ext _ _ (Nat.le_refl _))))
        go_roundw
        case rel => exact ⟨k + 1, by omega, by go_num, HO2.out⟩
        case measure => simp [intOf]; omega
      · go_wp2_with fail
        go_end0
        exact ⟨rfl, HOV.out⟩
end Go.Proofs.YtppkanniefignaaGreatDoor
set_option linter.unusedSimpArgs false
set_option linter.unusedVariables false
namespace Go.Proofs.YtppkanniefignaaGreatDoor
open Go.RowKit Go.Maps

/-! ### how long rows are -/
theorem loop_inv {σ : Type} {go : σ → Option σ} (P : σ → Prop) (h : ∀ x y, P x → go x = some y → P y) : ∀ (f : Nat) (x : σ), P x → P (loopC go f x)
  | 0, _, hx => hx
  | f + 1, x, hx => by
    cases hg : go x with
    | none => rw [loop_none hg]; exact hx
    | some y => rw [loop_some hg]; exact loop_inv P h f y (h x y hx hg)
theorem blocks_len (x : List Int × Cur) : (blocksC x).1.length ≤ x.1.length + leftC x.2 := by
  have h := loop_inv (go := blockG) (fun y => y.1.length + leftC y.2 ≤ x.1.length + leftC x.2) (fun y z hy hz => by
    have hd := blockG_dec y z hz
    unfold blockG at hz
    split at hz
    · cases hz
    · injection hz with hz
      subst hz
      simp only [List.length_append, List.length_cons, List.length_nil] at hd ⊢
      omega) (leftC x.2) x (Nat.le_refl _)
  unfold blocksC runC
  exact Nat.le_trans (Nat.le_add_right _ _) h
theorem tile_len (s : Cur) : (tileC s).1.blocks.length ≤ leftC s := by
  unfold tileC
  simp only
  refine Nat.le_trans (blocks_len _) ?_
  have h1 := left_kind kindsB 1 s
  have h2 := left_unless (x := 7) (by decide) ((kindC kindsB 1 s).1 != 0) (kindC kindsB 1 s).2
  have h3 := left_num (-1) 199 (unlessC ((kindC kindsB 1 s).1 != 0) 7 (kindC kindsB 1 s).2)
  have h4 := left_mark [tColon] (numC (-1) 199 (unlessC ((kindC kindsB 1 s).1 != 0) 7 (kindC kindsB 1 s).2)).2
  simp only [List.length_nil]
  omega
theorem facts_len (s : Cur) : (factsC s).1.length ≤ leftC s + 1 := by
  have h := loop_inv (go := factG) (fun y => y.1.1.length + factM y ≤ leftC s + 1) (fun y z hy hz => by
    have hd := factG_dec y z hz
    unfold factG at hz
    split at hz
    · injection hz with hz
      subst hz
      simp only [List.length_append, List.length_cons, List.length_nil] at hd ⊢
      omega
    · cases hz) (factM (([], !endsC s), s)) (([], !endsC s), s) (by unfold factM; simp only [List.length_nil]; split <;> omega)
  unfold factsC factsL runC
  simp only
  exact Nat.le_trans (Nat.le_add_right _ _) h
theorem tiles_small (s : Cur) : (∀ t ∈ (tilesC ([], s)).1, t.blocks.length ≤ leftC s) ∧ leftC (tilesC ([], s)).2 ≤ leftC s := by
  have h := loop_inv (go := tilesG) (fun y => (∀ t ∈ y.1, t.blocks.length ≤ leftC s) ∧ leftC y.2 ≤ leftC s) (fun y z hy hz => by
    have hd := tilesG_dec y z hz
    unfold tilesG at hz
    split at hz
    · injection hz with hz
      subst hz
      refine ⟨fun t ht => ?_, by simp only at hd ⊢; omega⟩
      rcases List.mem_append.1 ht with ht | ht
      · exact hy.1 t ht
      · rw [List.mem_singleton] at ht
        subst ht
        refine Nat.le_trans (tile_len _) ?_
        have h1 := left_unless (x := 3) (by decide) (decide (y.1.length < 200)) (popC y.2)
        rw [left_pop] at h1
        have := hy.2
        omega
    · cases hz) (leftC s) ([], s) ⟨fun _ h => (by cases h), Nat.le_refl _⟩
  exact h
theorem edges_small (s : Cur) : ∀ t ∈ (edgesC ([], s)).1, t.length ≤ leftC s + 1 := by
  have h := loop_inv (go := edgesG) (fun y => (∀ t ∈ y.1, t.length ≤ leftC s + 1) ∧ leftC y.2 ≤ leftC s) (fun y z hy hz => by
    have hd := edgesG_dec y z hz
    unfold edgesG at hz
    split at hz
    · injection hz with hz
      subst hz
      refine ⟨fun t ht => ?_, by simp only at hd ⊢; omega⟩
      rcases List.mem_append.1 ht with ht | ht
      · exact hy.1 t ht
      · rw [List.mem_singleton] at ht
        subst ht
        refine Nat.le_trans (facts_len _) ?_
        have h1 := left_unless (x := 3) (by decide) (decide (y.1.length < 400)) (popC y.2)
        rw [left_pop] at h1
        have := hy.2
        omega
    · cases hz) (leftC s) ([], s) ⟨fun _ h => (by cases h), Nat.le_refl _⟩
  exact h.1
theorem parse28_small (s : ByteArray) : (∀ t ∈ (parse28 s).1.tiles, t.blocks.length ≤ 1099511627776) ∧ (∀ l ∈ (parse28 s).1.facts, l.length ≤ 1099511627776) := by
  unfold parse28
  split
  · exact ⟨fun _ h => (by cases h), fun _ h => (by cases h)⟩
  · rename_i hs
    split
    · exact ⟨fun _ h => (by cases h), fun _ h => (by cases h)⟩
    · have h0 := overT_len28 s (by omega)
      have h1 := tiles_small (overT s)
      have h2 := edges_small (tilesC ([], overT s)).2
      refine ⟨fun t ht => Nat.le_trans (h1.1 t ht) (by omega), fun l hl => Nat.le_trans (h2 l hl) (by have := h1.2; omega)⟩
/-- An element of a row of the call's own. -/
theorem OwnL.at_own {α : Type} [Rep α] {w : World} {base : Nat} {T : TypeId} {S : Nat → Prop} {A : Option Addr} {n c : Nat} {xs : List α} (h : OwnL w base T S (.slice A n c) xs) {k : Nat} (hk : k < n) :
    ∃ g x us, A = some ⟨g, 0, none⟩ ∧ base ≤ g ∧ g < w.heap.size ∧ ¬ S g ∧ xs[k]? = some x ∧ Rep.is w S x us ∧ ∀ j u, us[j]? = some u → w.cell? ⟨g, k * Rep.size α + j, none⟩ = some u := by
  obtain ⟨vals, ⟨h1, h⟩, hr, hap⟩ := h
  rcases h with ⟨e, h0⟩ | ⟨g, cap, cur, e, hg, hh, hnc, hcm, hsz, htake⟩
  · injection e with e1 e2 e3
    omega
  · injection e with e1 e2 e3
    subst e1 e2 e3
    have hgl : g < w.heap.size := (Array.getElem?_eq_some_iff.1 hh).1
    obtain ⟨us, hus, hc⟩ := hr.at_ (List.getElem?_eq_getElem hk)
    refine ⟨g, xs[k], us, rfl, hg, hgl, hap g rfl, List.getElem?_eq_getElem hk, hus, fun j u hj => ?_⟩
    rw [cell_of_row w g _ cur T (0, 0) hh]
    have := hc j u hj
    rw [← htake, List.getElem?_take] at this
    split at this
    · simpa using this
    · cases this
theorem tile_own {w w' : World} {base : Nat} {S T : Nat → Prop} {A : Option Addr} {n c : Nat} {xs : List Tile} (h : OwnL (α := TileR) w base 35 S (.slice A n c) xs) (ho : Ovr w w' T) (hT : ∀ g, A = some ⟨g, 0, none⟩ → ¬ T g) {k : Nat} (hk : k < n) :
    ∃ g x A1 n1 c1, A = some ⟨g, 0, none⟩ ∧ g < w'.heap.size ∧ xs[k]? = some x ∧ x.blocks.length = n1 ∧ n1 ≤ c1 ∧ c1 ≤ 9223372036854775807 ∧ Room w' S 1 A1 c1 ∧ w'.cell? ⟨g, k * 3 + 2, none⟩ = some (.slice A1 n1 c1) := by
  obtain ⟨g, x, us, e, h1, h2, h3, h4, ⟨A1, n1, c1, rfl, _, _, hs, hr⟩, hc⟩ := h.at_own hk
  refine ⟨g, x, A1, n1, c1, e, Nat.lt_of_lt_of_le h2 ho.size, h4, hs.len, hs.2.1, by have := hs.2.2.1; unfold maxLen at this; omega, ho.room hr, ?_⟩
  exact (World.cell?_of_block (ho.block g h2 (hT g e))).trans (hc 2 _ rfl)
theorem facts_own {w w' : World} {base : Nat} {S T : Nat → Prop} {A : Option Addr} {n c : Nat} {xs : List (List Fact)} (h : OwnL (α := RowR Fact) w base 37 S (.slice A n c) xs) (ho : Ovr w w' T) (hT : ∀ g, A = some ⟨g, 0, none⟩ → ¬ T g) {k : Nat} (hk : k < n) :
    ∃ g, ∃ x : List Fact, ∃ A1 n1 c1, A = some ⟨g, 0, none⟩ ∧ g < w'.heap.size ∧ xs[k]? = some x ∧ x.length = n1 ∧ n1 ≤ c1 ∧ c1 ≤ 9223372036854775807 ∧ Room w' S 3 A1 c1 ∧ w'.cell? ⟨g, k, none⟩ = some (.slice A1 n1 c1) := by
  obtain ⟨g, x, us, e, h1, h2, h3, h4, ⟨A1, n1, c1, rfl, hs, hr⟩, hc⟩ := h.at_own hk
  refine ⟨g, x, A1, n1, c1, e, Nat.lt_of_lt_of_le h2 ho.size, h4, hs.len, hs.2.1, by have := hs.2.2.1; unfold maxLen at this; omega, ho.room hr, ?_⟩
  have h5 := (World.cell?_of_block (ho.block g h2 (hT g e))).trans (hc 0 _ rfl)
  simpa [Rep.size] using h5
set_option maxRecDepth 100000 in
set_option maxHeartbeats 16000000 in
theorem certParses_any (w : World) (hv : VarsP w) (s : ByteArray) (hs : s.size ≤ 140737488355328) : Calls Tryz.prog 3 #[.string s] w (RetX (.bool true) w) := by
  have HV := hide hv
  by_cases hbig : 6000 < s.size
  · have HA := hide (awake28_any w hv)
    clear hv
    go_enter Tryz.func3, Tryz.ntmps3
    go_wp2_with (go_at_call 7; (with_reducible refine HA.out.mono ?_); rintro e _ ⟨rfl, u0, rfl⟩)
    go_ret
    exact RetX.b rfl ((Below.refl _ _).ext (Nat.le_refl _) u0)
  have HSM := hide (parse28_small s)
  have HPA := hide (fun (W : World) (hW : VarsP W) => parse28_any s W hW)
  have HPB := hide (fun (W : World) => dparse28_any s W)
  obtain ⟨⟨⟨tl, fl⟩, el, ec, ee⟩, hr⟩ : ∃ r, parse28 s = r := ⟨_, rfl⟩
  rw [hr] at HSM HPA HPB
  have HP1 := hide (HPA.out w hv)
  have hee : (ee != ee) = false := by simp
  have hel : (el != el) = false := by simp
  have hec : (ec != ec) = false := by simp
  clear hr hv
  go_enter Tryz.func3, Tryz.ntmps3
  go_wp2_with (go_at_call 8; (with_reducible refine HP1.out.mono ?_); rintro e W1 ⟨A, n, k, B, m, j, D, St, Sf, rfl, ho, hb⟩; dsimp only; have HO1 := hide ho; have HB1 := hide hb; clear ho hb; refine Hd.out ?_)
  clear HP1
  obtain ⟨C1, hC1⟩ : ∃ C, W1.heap.size = C := ⟨_, rfl⟩
  obtain ⟨W2, hW2⟩ : ∃ W', W1.alloc (.cells #[.slice A n k, .slice B m j] 26) = W' := ⟨_, rfl⟩
  have HR2 := hide (show W2.heap[C1]? = some (.cells #[.slice A n k, .slice B m j] 26 (0, 0)) from by rw [← hW2, ← hC1]; exact heap_alloc_new W1 _)
  have HB12 := hide (show Below W1.heap.size W1 W2 from by rw [← hW2]; exact (Below.refl _ _).alloc (Nat.le_refl _) _)
  have HSZ2 := hide (show W2.heap.size = C1 + 1 from by rw [← hW2, ← hC1]; simp)
  have HC1 := hide hC1; have HW2 := hide hW2
  have HP2 := hide (HPB.out W2)
  clear hC1 hW2
  refine hide ?_
  go_wp2_with (go_at_call 9; first | rw [HW2.out] | skip; (with_reducible refine HP2.out.mono ?_); rintro e W3 ⟨A2, n2, k2, B2, m2, j2, D2, St2, Sf2, rfl, ho, hb⟩; dsimp only; have HO2 := hide ho; have HB2 := hide hb; clear ho hb; refine Hd.out ?_)
  rw [HC1.out]
  have hn2 : n2 = n := by have h1 := HO1.out.nt; have h2 := HO2.out.nt; omega
  have hm2 : m2 = m := by have h1 := HO1.out.nf; have h2 := HO2.out.nf; omega
  subst hn2 hm2
  clear HP2
  obtain ⟨C2, hC2⟩ : ∃ C, W3.heap.size = C := ⟨_, rfl⟩
  obtain ⟨W4, hW4⟩ : ∃ W', W3.alloc (.cells #[.slice A2 n2 k2, .slice B2 m2 j2] 26) = W' := ⟨_, rfl⟩
  have HR4 := hide (show W4.heap[C2]? = some (.cells #[.slice A2 n2 k2, .slice B2 m2 j2] 26 (0, 0)) from by rw [← hW4, ← hC2]; exact heap_alloc_new W3 _)
  have HB34 := hide (show Below W3.heap.size W3 W4 from by rw [← hW4]; exact (Below.refl _ _).alloc (Nat.le_refl _) _)
  have HC2 := hide hC2; have HW4 := hide hW4
  have hz1 : C1 + 1 ≤ W3.heap.size := by have h1 := HB2.out.size; have h2 := HSZ2.out; omega
  have hz2 : C2 < W4.heap.size := (Array.getElem?_eq_some_iff.1 HR4.out).1
  have HZ1 := hide hz1
  -- what b reads as
  have hbt : Sl W4 (fun b => C1 < b ∧ b < W3.heap.size) A2 n2 k2 tl := by
    have h := (HO2.out.ot.tiles.sl (S' := fun b => C1 < b) (fun b hb h => by
      have hz := HSZ2.out
      rcases h with h | h
      · have h1 := (HO2.out.st b h).1
        show C1 < b
        omega
      · show C1 < b
        omega)).more (S' := fun b => C1 < b ∧ b < W3.heap.size) (fun b hb h => ⟨h, hb⟩)
    exact h.belowAll HB34.out
  have hbf : Sl W4 (fun b => C1 < b ∧ b < W3.heap.size) B2 m2 j2 fl := by
    have h := (HO2.out.of.rows.sl (S' := fun b => C1 < b) (fun b hb h => by
      have hz := HSZ2.out
      rcases h with h | h
      · have h1 := (HO2.out.sf b h).1
        show C1 < b
        omega
      · show C1 < b
        omega)).more (S' := fun b => C1 < b ∧ b < W3.heap.size) (fun b hb h => ⟨h, hb⟩)
    exact h.belowAll HB34.out
  have HBT := hide hbt; have HBF := hide hbf
  have HR14 := hide (show W4.heap[C1]? = some (.cells #[.slice A n2 k, .slice B m2 j] 26 (0, 0)) from by rw [HB34.out.block C1 (by omega), HB2.out.block C1 (by have := HSZ2.out; omega)]; exact HR2.out)
  have a0 : W4.cell? ⟨C1, 0, none⟩ = some (.slice A n2 k) := cell_of_row W4 C1 _ _ _ (0, 0) HR14.out
  have a1 : W4.cell? ⟨C1, 1, none⟩ = some (.slice B m2 j) := cell_of_row W4 C1 _ _ _ (0, 0) HR14.out
  have b0 : W4.cell? ⟨C2, 0, none⟩ = some (.slice A2 n2 k2) := cell_of_row W4 C2 _ _ _ (0, 0) HR4.out
  have b1 : W4.cell? ⟨C2, 1, none⟩ = some (.slice B2 m2 j2) := cell_of_row W4 C2 _ _ _ (0, 0) HR4.out
  have l1 : C1 < W4.heap.size := (Array.getElem?_eq_some_iff.1 HR14.out).1
  have HB14 := hide (show Below C1 W1 W4 from by
    have h1 := HB12.out; have h2 := HB2.out; have h3 := HB34.out; have hz := HSZ2.out; have hc := HC1.out
    rw [hc] at h1
    exact h1.trans ((h2.mono (by omega)).trans (h3.mono (by omega))))
  have HAT := hide (show OwnL (α := TileR) W4 w.heap.size 35 St (.slice A n2 k) tl from HO1.out.ot.keep (by have := HB14.out.size; have := HC1.out; omega) (fun b hb _ => HB14.out.block b (by have h1 := (HO1.out.st b hb).2; have h2 := HO1.out.d; have := HC1.out; omega)) fun g hg => HB14.out.block g (by have := (HO1.out.ot.below_ g hg).2; have := HC1.out; omega))
  have HAF := hide (show OwnL (α := RowR Fact) W4 w.heap.size 37 Sf (.slice B m2 j) fl from HO1.out.of.keep (by have := HB14.out.size; have := HC1.out; omega) (fun b hb _ => HB14.out.block b (by have h1 := (HO1.out.sf b hb).2.2; have := HC1.out; omega)) fun g hg => HB14.out.block g (by have := (HO1.out.of.below_ g hg).2; have := HC1.out; omega))
  have HSC := hide (sameCert28_any W4 _ _ _ _ A A2 B B2 n2 k k2 m2 j j2 ⟨tl, fl⟩ (HAT.out.tiles.sl (S' := fun _ => True) fun _ _ _ => trivial) hbt (HAF.out.rows.sl (S' := fun _ => True) fun _ _ _ => trivial) hbf)
  have HST := hide (show ∀ b, St b → w.heap.size ≤ b ∧ b < C1 from fun b hb => by have h1 := HO1.out.st b hb; have h2 := HO1.out.d; have := HC1.out; omega)
  have HSF := hide (show ∀ b, Sf b → w.heap.size ≤ b ∧ b < C1 from fun b hb => by have h1 := HO1.out.sf b hb; have := HC1.out; omega)
  have HTB := hide HO1.out.tb; have HFB := hide HO1.out.fb; have HSTD := hide HO1.out.st; have HSFD := hide HO1.out.sf
  have HBW4 := hide (show Below w.heap.size w W4 from HB1.out.trans (HB14.out.mono (by have := HB1.out.size; have := HC1.out; omega)))
  have HFNT := hide (show ∀ g, (Value.slice B m2 j).ownBlock = some g → ¬ Sf g from fun g hg => by obtain ⟨_, _, _, h3⟩ := HO1.out.of; exact h3 g hg)
  have HTNT := hide (show ∀ g, (Value.slice A n2 k).ownBlock = some g → ¬ St g from fun g hg => by obtain ⟨_, _, _, h3⟩ := HO1.out.ot; exact h3 g hg)
  clear hbt hbf HO1 HO2 HB1 HB12 HB2 HB34 HR2 hz1
  refine hide ?_
  go_wp2_with (go_at_call 10; (with_reducible refine HSC.out.mono ?_); rintro e W5 ⟨rfl, u5, hu5⟩; have HU5 := hide hu5; clear hu5; refine Hd.out ?_)
  have hn := HBT.out.nle
  have hm := HBF.out.nle
  have HAT5 := hide (show OwnL (α := TileR) W5 w.heap.size 35 St (.slice A n2 k) tl from HU5.out ▸ HAT.out.ext u5)
  have HAF5 := hide (show OwnL (α := RowR Fact) W5 w.heap.size 37 Sf (.slice B m2 j) fl from HU5.out ▸ HAF.out.ext u5)
  have HBT5 := hide (show Sl W5 (fun b => C1 < b ∧ b < W3.heap.size) A2 n2 k2 tl from HU5.out ▸ HBT.out.ext u5)
  have HBF5 := hide (show Sl W5 (fun b => C1 < b ∧ b < W3.heap.size) B2 m2 j2 fl from HU5.out ▸ HBF.out.ext u5)
  have HR15 := hide (show W5.heap[C1]? = some (.cells #[.slice A n2 k, .slice B m2 j] 26 (0, 0)) from by rw [HU5.out, ext_block W4 u5 C1 l1]; exact HR14.out)
  have HR45 := hide (show W5.heap[C2]? = some (.cells #[.slice A2 n2 k2, .slice B2 m2 j2] 26 (0, 0)) from by rw [HU5.out, ext_block W4 u5 C2 hz2]; exact HR4.out)
  have HBW5 := hide (show Below w.heap.size w W5 from HU5.out ▸ HBW4.out.ext HBW4.out.size u5)
  have l5 : C1 < W5.heap.size := (Array.getElem?_eq_some_iff.1 HR15.out).1
  have l6 : C2 < W5.heap.size := (Array.getElem?_eq_some_iff.1 HR45.out).1
  have hC12 : C1 < C2 := by have := HZ1.out; omega
  have HL5 := hide l5; have HL6 := hide l6
  have HCC := hide hC12
  have HBSZ := hide hC2
  clear a0 a1 b0 b1 l1 l5 l6 hz2 hC2 hW4 hC12 HAT HAF HBT HBF HR14 HR4 HBW4 HB14 HSC HU5
  refine hide ?_
  go_wp2_with fail
  go_loopw [11] (fun i wr => ∃ k1 : Nat, k1 ≤ n2 ∧ i = .int .i64 k1 ∧ Ovr W5 wr St) (fun i _ => n2 - (intOf i).toNat)
  case atStart => exact ⟨0, Nat.zero_le _, rfl, Ovr.refl _ _⟩
  case round =>
    obtain ⟨k1, hk, rfl, hov⟩ := hrel
    have HOV := hide hov
    clear hov
    have hr1 : wr.heap[C1]? = some (.cells #[.slice A n2 k, .slice B m2 j] 26 (0, 0)) := (HOV.out.block C1 HL5.out (fun e => by have := (HST.out C1 e).2; omega)).trans HR15.out
    have a0 : wr.cell? ⟨C1, 0, none⟩ = some (.slice A n2 k) := cell_of_row wr C1 _ _ _ (0, 0) hr1
    have a1 : wr.cell? ⟨C1, 1, none⟩ = some (.slice B m2 j) := cell_of_row wr C1 _ _ _ (0, 0) hr1
    have l1 : C1 < wr.heap.size := (Array.getElem?_eq_some_iff.1 hr1).1
    have HRR := hide hr1
    clear hr1
    by_cases hlt : k1 < n2
    · obtain ⟨g, x, A1, n1, c1, hA, hg, hx, hxl, hnc, hcm, hroom, hcell⟩ := tile_own HAT5.out HOV.out (fun g e => HTNT.out g (by rw [e]; rfl)) hlt
      have hki : (k1 : Int) < n2 := by omega
      have HOI := hide (overInts28_any wr St A1 n1 c1 hroom hnc hcm (hxl ▸ HSM.out.1 x (mem_at hx)))
      subst hA
      clear hx hxl hnc hcm hroom
      go_wp2_with (first | (go_at_call 11; (with_reducible refine HOI.out.mono ?_); rintro e W' ⟨rfl, hov⟩; have HO2 := hide (HOV.out.trans hov); clear hov))
      go_roundw
      case rel => exact ⟨k1 + 1, by omega, by go_num, HO2.out⟩
      case measure => simp [intOf]; omega
    · have hki : decide ((k1 : Int) < n2) = false := by simp; omega
      go_wp2_with fail
      have HOV1 := hide (HOV.out.mono (T' := fun b => St b ∨ Sf b) fun b h => .inl h)
      clear a0 a1 l1 HRR HOV hlt hki hk
      go_loopw [12] (fun i wr => ∃ k1 : Nat, k1 ≤ m2 ∧ i = .int .i64 k1 ∧ Ovr W5 wr (fun b => St b ∨ Sf b)) (fun i _ => m2 - (intOf i).toNat)
      case atStart => exact ⟨0, Nat.zero_le _, rfl, HOV1.out⟩
      case round =>
        obtain ⟨q1, hk, rfl, hov⟩ := hrel
        have HOV := hide hov
        clear hov HOV1
        have hr1 : wr.heap[C1]? = some (.cells #[.slice A n2 k, .slice B m2 j] 26 (0, 0)) := (HOV.out.block C1 HL5.out (fun e => by rcases e with e | e; have := (HST.out C1 e).2; omega; have := (HSF.out C1 e).2; omega)).trans HR15.out
        have a0 : wr.cell? ⟨C1, 0, none⟩ = some (.slice A n2 k) := cell_of_row wr C1 _ _ _ (0, 0) hr1
        have a1 : wr.cell? ⟨C1, 1, none⟩ = some (.slice B m2 j) := cell_of_row wr C1 _ _ _ (0, 0) hr1
        have l1 : C1 < wr.heap.size := (Array.getElem?_eq_some_iff.1 hr1).1
        clear hr1
        by_cases hlt : q1 < m2
        · obtain ⟨g, x, A1, n1, c1, hA, hg, hx, hxl, hnc, hcm, hroom, hcell⟩ := facts_own HAF5.out HOV.out (fun g e h => by
            have hg : (Value.slice B m2 j).ownBlock = some g := by rw [e]; rfl
            rcases h with h | h
            · have h1 := (HSTD.out g h).2; have h2 := HFB.out g hg; omega
            · exact HFNT.out g hg h) hlt
          have hki : (q1 : Int) < m2 := by omega
          have HOI := hide (overFacts28_any wr Sf A1 n1 c1 hroom hnc hcm (hxl ▸ HSM.out.2 x (mem_at hx)))
          subst hA
          clear hx hxl hnc hcm hroom
          go_wp2_with (first | (go_at_call 12; (with_reducible refine HOI.out.mono ?_); rintro e W' ⟨rfl, hov⟩; have HO2 := hide (HOV.out.trans (hov.mono fun b h => .inr h)); clear hov))
          go_roundw
          case rel => exact ⟨q1 + 1, by omega, by go_num, HO2.out⟩
          case measure => simp [intOf]; omega
        · have hki : decide ((q1 : Int) < m2) = false := by simp; omega
          have HBWr := hide (show Below w.heap.size w wr from HBW5.out.trans (HOV.out.below HBW5.out.size (fun b h => by rcases h with h | h; exact (HST.out b h).1; exact (HSF.out b h).1)))
          have HVr := hide (HV.out.below HBWr.out HV.out.v.sz)
          have HP3 := hide (HPA.out wr HVr.out)
          clear hk
          go_wp2_with (go_at_call 8; refine Hd.out ?_)
          refine hide ?_
          (with_reducible refine HP3.out.mono ?_); rintro e W6 ⟨A3, n3, k3, B3, m3, j3, D3, St3, Sf3, rfl, ho, hb⟩; dsimp only; have HO3 := hide ho; have HB3 := hide hb; clear ho hb; refine Hd.out ?_
          have hn3 : n3 = n2 := by have h1 := HO3.out.nt; have h2 := HBT5.out.len; show n3 = n2; exact h1.symm.trans h2
          have hm3 : m3 = m2 := by have h1 := HO3.out.nf; have h2 := HBF5.out.len; exact h1.symm.trans h2
          subst hn3 hm3
          obtain ⟨C3, hC3⟩ : ∃ C, W6.heap.size = C := ⟨_, rfl⟩
          obtain ⟨W7, hW7⟩ : ∃ W', W6.alloc (.cells #[.slice A3 n3 k3, .slice B3 m3 j3] 26) = W' := ⟨_, rfl⟩
          have hr7 : W7.heap[C3]? = some (.cells #[.slice A3 n3 k3, .slice B3 m3 j3] 26 (0, 0)) := by rw [← hW7, ← hC3]; exact heap_alloc_new W6 _
          have HB67 := hide (show Below W6.heap.size W6 W7 from by rw [← hW7]; exact (Below.refl _ _).alloc (Nat.le_refl _) _)
          have hkp : ∀ b, C1 < b → b < W5.heap.size → W7.heap[b]? = W5.heap[b]? := fun b h1 h2 => by
            have h3 := HOV.out.size; have h4 := HB3.out.size
            rw [HB67.out.block b (by omega), HB3.out.block b (by omega)]
            exact HOV.out.block b h2 (fun e => by rcases e with e | e; have := (HST.out b e).2; omega; have := (HSF.out b e).2; omega)
          have hs57 : W5.heap.size ≤ W7.heap.size := by have h3 := HOV.out.size; have h4 := HB3.out.size; have h5 := HB67.out.size; omega
          have hr47 : W7.heap[C2]? = some (.cells #[.slice A2 n3 k2, .slice B2 m3 j2] 26 (0, 0)) := (hkp C2 HCC.out HL6.out).trans HR45.out
          have b0 : W7.cell? ⟨C2, 0, none⟩ = some (.slice A2 n3 k2) := cell_of_row W7 C2 _ _ _ (0, 0) hr47
          have b1 : W7.cell? ⟨C2, 1, none⟩ = some (.slice B2 m3 j2) := cell_of_row W7 C2 _ _ _ (0, 0) hr47
          have d0 : W7.cell? ⟨C3, 0, none⟩ = some (.slice A3 n3 k3) := cell_of_row W7 C3 _ _ _ (0, 0) hr7
          have d1 : W7.cell? ⟨C3, 1, none⟩ = some (.slice B3 m3 j3) := cell_of_row W7 C3 _ _ _ (0, 0) hr7
          have l2 : C2 < W7.heap.size := (Array.getElem?_eq_some_iff.1 hr47).1
          have l3 : C3 < W7.heap.size := (Array.getElem?_eq_some_iff.1 hr7).1
          have HSC := hide (sameCert28_any W7 _ _ _ _ A3 A2 B3 B2 n3 k3 k2 m3 j3 j2 ⟨tl, fl⟩ ((HO3.out.ot.tiles.sl (S' := fun _ => True) fun _ _ _ => trivial).belowAll HB67.out) (HBT5.out.keep hs57 fun b hb hl => hkp b hb.1 hl) ((HO3.out.of.rows.sl (S' := fun _ => True) fun _ _ _ => trivial).belowAll HB67.out) (HBF5.out.keep hs57 fun b hb hl => hkp b hb.1 hl))
          have HB7 := hide (show Below w.heap.size w W7 from (HBWr.out.trans (HB3.out.mono HBWr.out.size)).trans (HB67.out.mono (by have := HBWr.out.size; have := HB3.out.size; omega)))
          have HAW := hide (fun u : Ext => awake28_any (W7.ext u) (HV.out.below (HB7.out.ext HB7.out.size u) HV.out.v.sz))
          clear hr7 hr47 hkp hs57 a0 a1 l1
          refine hide ?_
          go_wp2_with (first | (go_at_call 10; (with_reducible refine HSC.out.mono ?_); rintro e _ ⟨rfl, u7, rfl⟩) | (go_at_call 7; (with_reducible refine (HAW.out _).mono ?_); rintro e _ ⟨rfl, u8, rfl⟩))
          go_ret
          exact RetX.b rfl ((HB7.out.ext HB7.out.size u7).ext (by rw [size_ext]; have := HB7.out.size; omega) u8)
end Go.Proofs.YtppkanniefignaaGreatDoor
