/- law28: walks: CertWords: digits. law28: walks: CertWords: places, facts, digits. law28: walks: CertWords: a certificate of a number. -/
import Derived.Test.YtppkanniefignaaGreatDoorG20
import Derived.Test.YtppkanniefignaaGreatDoorG45
import Derived.Test.YtppkanniefignaaGreatDoorG3
set_option linter.unusedSimpArgs false
set_option linter.unusedVariables false
namespace Go.Proofs.YtppkanniefignaaGreatDoor
open Go.RowKit Go.Maps
def RetS (k : Nat) (w : World) (e : Ending) (w' : World) : Prop := ∃ t : ByteArray, t.size ≤ k ∧ e = .returned (.string t) ∧ ∃ u : Ext, w' = w.ext u
theorem dig_conv (W : World) (n : Nat) (h : n < 10) : ∃ t : ByteArray, t.size = 1 ∧ (convert 85 9 (.slice (some ⟨W.heap.size, 0, none⟩) 1 1)).run Tryz.prog (W.alloc (.cells #[.int .u8 (48 + n)] 5)) = .ok (.string t) (W.alloc (.cells #[.int .u8 (48 + n)] 5)) := by
 refine ⟨⟨[UInt8.ofNat (48 + n)].toArray⟩, rfl, ?_⟩
 exact run_convert_bytes_back (P := Tryz.prog) _ 85 9 5 ⟨W.heap.size, 0, none⟩ 1 [UInt8.ofNat (48 + n)] Tryz.underlying85 Tryz.underlying5 Tryz.underlying9 (fun j hj => by
  match j, hj with
  | 0, _ =>
   have e : (((UInt8.ofNat (48 + n)).toNat : Nat) : Int) = 48 + n := by rw [ofNat_toNat (by omega)]; omega
   rw [Addr.add_lit, cell_of_row _ W.heap.size _ _ 5 (0, 0) (heap_alloc_new W _)]
   simp only [List.getElem_cons_zero, e]
   rfl)
set_option maxRecDepth 100000 in
set_option maxHeartbeats 4000000 in
theorem digits1_any (w : World) (n : Nat) (h : n < 10) : Calls Tryz.prog 61 #[.int .i64 n] w (RetS 1 w) := by
 have h1 : decide ((n : Int) < 10) = true := by simp; omega
 obtain ⟨t, ht, hcv⟩ := dig_conv w n h
 go_enter Tryz.func61, Tryz.ntmps61
 go_wp2_with (first | (rw [hcv]; simp only [Result.andThen_ok]) | (unfold Oper.upon; rw [hcv]))
 go_ret
 exact ⟨t, by omega, rfl, Below.to_ext (by repeat (first | exact Below.refl _ _ | assumption | refine Below.alloc ?_ (by simp [size_ext]; try omega) _ | refine Below.ext ?_ (by simp [size_ext]; try omega) _ | refine Below.drew ?_ | refine Below.setCell ?_ (by simp [size_ext]; try omega) _))⟩
def TextP (k : Nat) : Post := PureP fun v => ∃ t : ByteArray, v = .string t ∧ t.size ≤ k
theorem dig_row (W : World) (g : Nat) (p : Nat) (h : p < 10) (hg : W.heap[g]? = some (.cells #[.int .u8 (48 + p)] 5 (0, 0))) : ∃ t : ByteArray, t.size = 1 ∧ (convert 85 9 (.slice (some ⟨g, 0, none⟩) 1 1)).run Tryz.prog W = .ok (.string t) W := by
 refine ⟨⟨[UInt8.ofNat (48 + p)].toArray⟩, rfl, ?_⟩
 exact run_convert_bytes_back (P := Tryz.prog) _ 85 9 5 ⟨g, 0, none⟩ 1 [UInt8.ofNat (48 + p)] Tryz.underlying85 Tryz.underlying5 Tryz.underlying9 (fun j hj => by
  match j, hj with
  | 0, _ =>
   have e : (((UInt8.ofNat (48 + p)).toNat : Nat) : Int) = 48 + p := by rw [ofNat_toNat (by omega)]; omega
   rw [Addr.add_lit, cell_of_row _ g _ _ 5 (0, 0) hg]
   simp only [List.getElem_cons_zero, e]
   rfl)
set_option maxRecDepth 100000 in
set_option maxHeartbeats 4000000 in
theorem digits_step (w : World) (n k : Nat) (h : 10 ≤ n) (hn : n < 100000) (hk : k ≤ 100) (hd : ∀ W, Calls Tryz.prog 61 #[.int .i64 ((n / 10 : Nat) : Int)] W (RetS k W)) : Calls Tryz.prog 61 #[.int .i64 n] w (RetS (k + 1) w) := by
 have h1 : decide ((n : Int) < 10) = false := by simp; omega
 obtain ⟨q, hq⟩ : ∃ q, n / 10 = q := ⟨_, rfl⟩
 rw [hq] at hd
 have eq : (n : Int).tdiv 10 = (q : Int) := by rw [← hq]; exact Int.tdiv_eq_ediv_of_nonneg (by omega)
 obtain ⟨p, hp⟩ : ∃ p, n % 10 = p := ⟨_, rfl⟩
 have ep : (n : Int).tmod 10 = (p : Int) := by rw [← hp]; exact Int.tmod_eq_emod_of_nonneg (by omega)
 have lp : p < 10 := by omega
 have wq : IntKind.i64.wrap (q : Int) = (q : Int) := IntWalk.i64_in _ (by omega)
 have w1 : IntKind.i64.wrap (48 + (p : Int)) = 48 + p := IntWalk.i64_in _ (by omega)
 have w2 : IntKind.u8.wrap (48 + (p : Int)) = 48 + p := IntWalk.u8_in _ (by omega)
 have HD := hide hd
 clear hd hq hp
 go_enter Tryz.func61, Tryz.ntmps61
 go_wp2_with fail
 refine wp_region_flow_ext [] [7] (by kernel_rfl) rfl (by kernel_rfl) ?_
 repeat (refine flow_known (by kernel_rfl) (fun K hK => ?_); go_simp; (first | (refine hK _ ?_; clear hK K) | (apply Exists.intro; refine ⟨fun _ => ?_, hK _ ?_⟩; (fail); clear hK K)))
 refine flow_keep0 (TextP k) (by kernel_rfl) (PureP.stable_ rfl) ?_ ?_
 ·intro u
  go_simp
  refine (HD.out _).mono ?_
  rintro e _ ⟨t, ht, rfl, x', rfl⟩
  exact ⟨_, rfl, ⟨t, rfl, ht⟩, onW_ext ⟨_, rfl⟩ ⟨x', rfl⟩⟩
 repeat (refine flow_known (by kernel_rfl) (fun K hK => ?_); go_simp; (first | (refine hK _ ?_; clear hK K) | (apply Exists.intro; refine ⟨fun _ => ?_, hK _ ?_⟩; (fail); clear hK K)))
 refine flow_keep0 (LitP 5 [.int .u8 (48 + p)] 1) (by kernel_rfl) (LitP.stable_ rfl) ?_ ?_
 ·intro u
  go_simp
  exact ⟨LitP.mk_ (w := w.ext u) (by rw [size_ext]), onW_alloc rfl ⟨_, rfl⟩⟩
 refine flow_keep [false, true] (TextP 1) (by kernel_rfl) (PureP.stable_ rfl) ?_ ?_
 ·intro u
  try simp only [List.nil_append, List.cons_append, useH_f, useH_t, useH_nil]
  rintro _ ⟨g, rfl, hg⟩
  obtain ⟨t, ht, hcv⟩ := dig_row _ g p lp hg
  go_simp
  exact ⟨⟨t, rfl, by omega⟩, onW_same ⟨_, rfl⟩⟩
 refine flow_keep [true, false, true] (TextP (k + 1)) (by kernel_rfl) (PureP.stable_ rfl) ?_ ?_
 ·intro u
  try simp only [List.nil_append, List.cons_append, useH_f, useH_t, useH_nil]
  rintro _ ⟨t1, rfl, h1⟩ _ ⟨t2, rfl, h2⟩
  go_simp
  rw [if_neg (by omega)]
  exact ⟨⟨t1 ++ t2, rfl, by rw [ByteArray.size_append]; omega⟩, onW_same ⟨_, rfl⟩⟩
 refine flow_keep [false, false, false, true] (TextP (k + 1)) (by kernel_rfl) (PureP.stable_ rfl) ?_ ?_
 ·intro u
  try simp only [List.nil_append, List.cons_append, useH_f, useH_t, useH_nil]
  rintro _ ⟨t1, rfl, h1⟩
  go_simp
  exact ⟨⟨t1, rfl, h1⟩, onW_same ⟨_, rfl⟩⟩
 refine flow_done [true, true, true, true, true] (by kernel_rfl) ?_
 intro u
 simp only [List.nil_append, List.cons_append, endH_f, endH_t, endH_nil]
 rintro _ - _ - _ - _ - _ ⟨t, rfl, ht⟩
 go_simp
 go_wp2_with fail
 go_ret
 exact ⟨t, ht, rfl, ⟨u, rfl⟩⟩
set_option maxRecDepth 100000 in
set_option maxHeartbeats 4000000 in
theorem digits_any (w : World) (n : Nat) (h : n < 1000) : Calls Tryz.prog 61 #[.int .i64 n] w (RetS 3 w) := by
 have m : ∀ (k j : Nat) (W : World) e W', k ≤ j → RetS k W e W' → RetS j W e W' := fun k j W e W' hkj ⟨t, ht, h⟩ => ⟨t, by omega, h⟩
 by_cases h1 : n < 10
 ·exact (digits1_any w n h1).mono fun e W' hh => m 1 3 _ _ _ (by omega) hh
 by_cases h2 : n < 100
 ·exact (digits_step w n 1 (by omega) (by omega) (by omega) fun W => digits1_any W _ (by omega)).mono fun e W' hh => m 2 3 _ _ _ (by omega) hh
 ·exact digits_step w n 2 (by omega) (by omega) (by omega) fun W => by
   by_cases h3 : n / 10 < 10
   ·exact (digits1_any W _ h3).mono fun e W' hh => m 1 2 _ _ _ (by omega) hh
   ·exact digits_step W _ 1 (by omega) (by omega) (by omega) fun W => digits1_any W _ (by omega)
end Go.Proofs.YtppkanniefignaaGreatDoor
namespace Go.Proofs.YtppkanniefignaaGreatDoor
open Go.RowKit Go.Maps
theorem loc28_any (w : World) (b : Bool) (n : Int) : Calls Tryz.prog 55 #[.bool b, .int .i64 n] w (RetX (.agg #[.bool b, .int .i64 n]) w) := by
 go_enter Tryz.func55, Tryz.ntmps55
 go_wp2_with fail
 refine bodyPost_ret (results_cell_row Tryz.results55 _ _ w.heap.size _ _ (0, 0) _ rfl (heap_alloc_new w _) Tryz.underlying40 rfl (by kernel_rfl)) rfl ?_
 exact ⟨rfl, Below.to_ext (by repeat (first | exact Below.refl _ _ | assumption | refine Below.alloc ?_ (by simp [size_ext]; try omega) _ | refine Below.ext ?_ (by simp [size_ext]; try omega) _ | refine Below.drew ?_ | refine Below.setCell ?_ (by simp [size_ext]; try omega) _))⟩
set_option maxRecDepth 100000 in
set_option maxHeartbeats 4000000 in
theorem fact28_mk (w : World) (v : Int) (b : Bool) (n : Int) : Calls Tryz.prog 24 #[.int .i64 v, .bool b, .int .i64 n] w (RetX (.agg #[.int .i64 v, .bool b, .int .i64 n]) w) := by
 obtain ⟨g, hg⟩ : ∃ g, w.heap.size = g := ⟨_, rfl⟩
 obtain ⟨W0, hW0⟩ : ∃ W, w.alloc (.cells #[.int .i64 0, .bool false, .int .i64 0] 42) = W := ⟨_, rfl⟩
 have hb0 : Below w.heap.size w W0 := by rw [← hW0]; exact (Below.refl _ _).alloc (Nat.le_refl _) _
 have hr0 : W0.heap[g]? = some (.cells #[.int .i64 0, .bool false, .int .i64 0] 42 (0, 0)) := by rw [← hW0, ← hg]; exact heap_alloc_new w _
 have HL := hide (loc28_any W0 b n)
 have HW0 := hide hW0; have HG := hide hg
 go_enter Tryz.func24, Tryz.ntmps24
 go_upto_region 1 with fail
 try rw [HW0.out]
 try rw [HG.out]
 have hl0 : g < W0.heap.size := (Array.getElem?_eq_some_iff.1 hr0).1
 go_wp2_with (go_at_call 55; (with_reducible refine HL.out.mono ?_); rintro e _ ⟨rfl, u1, rfl⟩; refine Hd.out ?_)
 obtain ⟨W1, hW1⟩ : ∃ W, W0.ext u1 = W := ⟨_, rfl⟩
 have hb1 : Below W0.heap.size W0 W1 := by rw [← hW1]; exact Below.of_ext W0 u1 (Nat.le_refl _)
 have hr1 : W1.heap[g]? = some (.cells #[.int .i64 0, .bool false, .int .i64 0] 42 (0, 0)) := (hb1.block g hl0).trans hr0
 have HB1 := hide (hb0.trans (hb1.mono hb0.size))
 rw [hW1]
 have c0 : W1.cell? ⟨g, 0, none⟩ = some (.int .i64 0) := cell_of_row W1 g _ _ _ (0, 0) hr1
 have c1 : W1.cell? ⟨g, 1, none⟩ = some (.bool false) := cell_of_row W1 g _ _ _ (0, 0) hr1
 have c2 : W1.cell? ⟨g, 2, none⟩ = some (.int .i64 0) := cell_of_row W1 g _ _ _ (0, 0) hr1
 have f0 : W1.frozen? ⟨g, 0, none⟩ = false := by simp [World.frozen?, hr1]
 have f1 : W1.frozen? ⟨g, 1, none⟩ = false := by simp [World.frozen?, hr1]
 have f2 : W1.frozen? ⟨g, 2, none⟩ = false := by simp [World.frozen?, hr1]
 have l1 : g < W1.heap.size := (Array.getElem?_eq_some_iff.1 hr1).1
 have HR1 := hide hr1
 clear hb0 hr0 hl0 hW0 hW1 hb1 hr1
 refine hide ?_
 go_wp2_with fail
 have hgg : w.heap.size ≤ g := by rw [HG.out]; exact Nat.le_refl _
 refine bodyPost_ret (results_cell_row Tryz.results24 _ _ g _ _ (0, 0) _ rfl (row_setB (row_setB (row_setB HR1.out 0 _) 1 _) 2 _) Tryz.underlying42 rfl (by kernel_rfl)) rfl ?_
 exact ⟨rfl, Below.to_ext (((HB1.out.setCell hgg _).setCell hgg _).setCell hgg _)⟩
end Go.Proofs.YtppkanniefignaaGreatDoor
namespace Go.Proofs.YtppkanniefignaaGreatDoor
open Go.RowKit Go.Maps
theorem Sl.drop_ {α : Type} [Rep α] {w : World} {S : Nat → Prop} {b off n c j : Nat} {xs : List α} (h : Sl w S (some ⟨b, off, none⟩) n c xs) (hj : j ≤ n) : Sl w S (if c = j then some ⟨b, off, none⟩ else some ⟨b, off + j * Rep.size α, none⟩) (n - j) (c - j) (xs.drop j) := by
 obtain ⟨h1, h2, h3, h4, h5⟩ := h
 refine ⟨by rw [List.length_drop, h1], by omega, by omega, fun e => (by split at e <;> cases e), fun hn => ?_⟩
 have hne : c ≠ j := by omega
 obtain ⟨b', off', e, hb, hS, hx⟩ := h5 (by omega)
 injection e with e
 injection e with e1 e2
 subst e1 e2
 rw [if_neg hne]
 refine ⟨b, off + j * Rep.size α, rfl, hb, hS, fun i x hi => ?_⟩
 rw [List.getElem?_drop] at hi
 obtain ⟨us, hus, hc⟩ := hx (j + i) x hi
 refine ⟨us, hus, fun q u hq => ?_⟩
 have := hc q u hq
 rw [show off + j * Rep.size α + (i * Rep.size α + q) = off + ((j + i) * Rep.size α + q) by rw [Nat.add_mul]; omega]
 exact this
def RetC (w : World) (e : Ending) (w' : World) : Prop :=
 ∃ (x : Cert) (A : Option Addr) (n a : Nat) (B : Option Addr) (m b : Nat), e = .returned (.agg #[.slice A n a, .slice B m b]) ∧ Sl w' (fun _ => True) A n a x.tiles ∧ Sl w' (fun _ => True) B m b x.facts ∧ (∀ t ∈ x.tiles, t.blocks.length ≤ 1000) ∧ (∀ l ∈ x.facts, l.length ≤ 1000) ∧ ∃ u : Ext, w' = w.ext u
set_option maxRecDepth 100000 in
set_option maxHeartbeats 8000000 in
theorem sample28_any (w : World) (n : Nat) (hn : n < 144) : Calls Tryz.prog 23 #[.int .i64 n] w (RetC w) := by
 obtain ⟨p3, hp3⟩ : ∃ p, n % 3 = p := ⟨_, rfl⟩
 obtain ⟨p4, hp4⟩ : ∃ p, n % 4 = p := ⟨_, rfl⟩
 obtain ⟨p5, hp5⟩ : ∃ p, n % 5 = p := ⟨_, rfl⟩
 obtain ⟨p6, hp6⟩ : ∃ p, n % 6 = p := ⟨_, rfl⟩
 obtain ⟨p64, hp64⟩ : ∃ p, n % 64 = p := ⟨_, rfl⟩
 have md : ∀ k : Nat, (n : Int).tmod (k : Int) = ((n % k : Nat) : Int) := fun k => by rw [Int.tmod_eq_emod_of_nonneg (by omega)]; rfl
 have e3 : (n : Int).tmod 3 = (p3 : Int) := by rw [← hp3]; exact md 3
 have e4 : (n : Int).tmod 4 = (p4 : Int) := by rw [← hp4]; exact md 4
 have e5 : (n : Int).tmod 5 = (p5 : Int) := by rw [← hp5]; exact md 5
 have e6 : (n : Int).tmod 6 = (p6 : Int) := by rw [← hp6]; exact md 6
 have e64 : (n : Int).tmod 64 = (p64 : Int) := by rw [← hp64]; exact md 64
 have l3 : p3 ≤ 2 := by omega
 have l4 : p4 ≤ 3 := by omega
 have l5 : p5 ≤ 4 := by omega
 have l6 : p6 ≤ 5 := by omega
 have l64 : p64 ≤ 63 := by omega
 have HF := hide (fun (W : World) (v : Int) (b : Bool) (k : Int) => fact28_mk W v b k)
 clear md hp3 hp4 hp5 hp6 hp64 hn
 go_enter Tryz.func23, Tryz.ntmps23
 go_upto_region 2 with fail
 obtain ⟨W1, hW1⟩ : ∃ W, (((((w.alloc (.cells #[.slice none 0 0, .slice none 0 0] 26)).alloc (.cells #[.int .i64 0, .int .i64 p3] 3)).alloc (.cells #[.int .i64 4, .int .i64 7, .int .i64 199] 3)).alloc (.cells #[.int .i64 1, .int .i64 (-1), .slice (some ⟨w.heap.size + 1, 0, none⟩) 2 2, .int .i64 (1 + p4), .int .i64 0, .slice (some ⟨w.heap.size + 1 + 1, 0, none⟩) p4 3] 35)).alloc (.cells #[.slice (some ⟨w.heap.size + 1 + 1 + 1, 0, none⟩) p3 2, .slice none 0 0] 26)) = W := ⟨_, rfl⟩
 rw [hW1]
 obtain ⟨tl, htl⟩ : ∃ l : List Tile, [(⟨1, -1, [0, (p3 : Int)]⟩ : Tile), ⟨1 + p4, 0, ([4, 7, 199] : List Int).take p4⟩] = l := ⟨_, rfl⟩
 have i0 : ∀ k : Int, -1000 ≤ k ∧ k ≤ 1000 → InI k := fun k h => by unfold InI; omega
 have s3 : Sl W1 (fun b => w.heap.size < b ∧ b ≤ w.heap.size + 1 + 1 + 1) (some ⟨w.heap.size + 1 + 1 + 1, 0, none⟩) 2 2 tl := by
  rw [← hW1, ← htl]
  have s1 := Sl.lit (w := w.alloc (.cells #[.slice none 0 0, .slice none 0 0] 26)) (S := fun _ => False) (S' := fun b => w.heap.size < b ∧ b ≤ w.heap.size + 1 + 1 + 1) (T := 3) (us := [.int .i64 0, .int .i64 p3]) (n := 2) (g := w.heap.size + 1) (by simp) (RepL.ints [0, (p3 : Int)] (by intro x hx; simp only [List.mem_cons, List.not_mem_nil, or_false] at hx; exact i0 x (by omega))) rfl (by decide) (fun _ h => h.elim) ⟨by omega, by omega⟩
  have s2 := Sl.lit (w := (w.alloc (.cells #[.slice none 0 0, .slice none 0 0] 26)).alloc (.cells #[.int .i64 0, .int .i64 p3] 3)) (S := fun _ => False) (S' := fun b => w.heap.size < b ∧ b ≤ w.heap.size + 1 + 1 + 1) (T := 3) (us := [.int .i64 4, .int .i64 7, .int .i64 199]) (n := 3) (g := w.heap.size + 1 + 1) (by simp) (RepL.ints [4, 7, 199] (by intro x hx; simp only [List.mem_cons, List.not_mem_nil, or_false] at hx; exact i0 x (by omega))) rfl (by decide) (fun _ h => h.elim) ⟨by omega, by omega⟩
  refine Sl.alloc (Sl.lit (n := 2) (S := fun b => w.heap.size < b ∧ b ≤ w.heap.size + 1 + 1 + 1) (us := [.int .i64 1, .int .i64 (-1), .slice (some ⟨w.heap.size + 1, 0, none⟩) 2 2, .int .i64 (1 + p4), .int .i64 0, .slice (some ⟨w.heap.size + 1 + 1, 0, none⟩) p4 3]) (by simp) ?_ rfl (by decide) (fun _ h => h) ⟨by omega, by omega⟩) _
  refine ⟨_, _, rfl, Tile.mk_ (x := ⟨1, -1, [0, (p3 : Int)]⟩) (i0 1 (by omega)) (i0 (-1) (by omega)) (s1.alloc _), RepL.single ?_⟩
  exact Tile.mk_ (x := ⟨1 + p4, 0, ([4, 7, 199] : List Int).take p4⟩) (i0 (1 + p4) (by omega)) (i0 0 (by omega)) (s2.take_ l4)
 have hr0 : W1.heap[w.heap.size]? = some (.cells #[.slice none 0 0, .slice none 0 0] 26 (0, 0)) := by
  rw [← hW1, Below.heap_alloc _ _ _ (by simp; omega), Below.heap_alloc _ _ _ (by simp; omega), Below.heap_alloc _ _ _ (by simp; omega), Below.heap_alloc _ _ _ (by simp)]
  exact heap_alloc_new w _
 have hr4 : W1.heap[w.heap.size + 1 + 1 + 1 + 1]? = some (.cells #[.slice (some ⟨w.heap.size + 1 + 1 + 1, 0, none⟩) p3 2, .slice none 0 0] 26 (0, 0)) := by
  rw [← hW1]
  have := heap_alloc_new ((((w.alloc (.cells #[.slice none 0 0, .slice none 0 0] 26)).alloc (.cells #[.int .i64 0, .int .i64 p3] 3)).alloc (.cells #[.int .i64 4, .int .i64 7, .int .i64 199] 3)).alloc (.cells #[.int .i64 1, .int .i64 (-1), .slice (some ⟨w.heap.size + 1, 0, none⟩) 2 2, .int .i64 (1 + p4), .int .i64 0, .slice (some ⟨w.heap.size + 1 + 1, 0, none⟩) p4 3] 35)) (.cells #[.slice (some ⟨w.heap.size + 1 + 1 + 1, 0, none⟩) p3 2, .slice none 0 0] 26)
  simpa using this
 have HTL := hide (show ∀ t ∈ tl.take p3, t.blocks.length ≤ 1000 from fun t ht => by
  have ht := List.mem_of_mem_take ht
  rw [← htl] at ht
  simp only [List.mem_cons, List.not_mem_nil, or_false] at ht
  rcases ht with rfl | rfl
  ·simp
  ·show (([4, 7, 199] : List Int).take p4).length ≤ 1000
   rw [List.length_take]; simp; omega)
 have HS3 := hide (s3.take_ l3)
 have HB1 := hide (show Below w.heap.size w W1 by rw [← hW1]; exact (by repeat (first | exact Below.refl _ _ | assumption | refine Below.alloc ?_ (by simp [size_ext]; try omega) _ | refine Below.ext ?_ (by simp [size_ext]; try omega) _ | refine Below.drew ?_ | refine Below.setCell ?_ (by simp [size_ext]; try omega) _)))
 have HSZ := hide (show W1.heap.size = w.heap.size + 1 + 1 + 1 + 1 + 1 by rw [← hW1]; simp)
 obtain ⟨g0, hg0⟩ : ∃ g, w.heap.size = g := ⟨_, rfl⟩
 rw [hg0] at hr0 hr4 HS3 HSZ ⊢
 obtain ⟨g3, hg3⟩ : ∃ g, g0 + 1 + 1 + 1 = g := ⟨_, rfl⟩
 rw [hg3] at hr4 HS3 HSZ ⊢
 have HR0 := hide hr0; have HR4 := hide hr4; have HG0 := hide hg0; have HG3 := hide hg3
 have HBc := hide (Below.refl W1.heap.size W1)
 clear s3 hr0 hr4 hW1 htl hg0 hg3
 go_upto_region 3 with (go_at_call 24; (with_reducible refine (HF.out _ _ _ _).mono ?_); rintro e V ⟨rfl, u, hV⟩; replace HBc := hide (show Below W1.heap.size W1 V by rw [hV]; exact HBc.out.ext HBc.out.size u); clear hV u)
 obtain ⟨gl, hgl⟩ : ∃ g, V.heap.size = g := ⟨_, rfl⟩
 obtain ⟨W2, hW2⟩ : ∃ W, V.alloc (.cells #[.int .i64 (-64), .bool false, .int .i64 63, .int .i64 (-2), .bool false, .int .i64 0, .int .i64 (-2), .bool true, .int .i64 0, .int .i64 1, .bool false, .int .i64 p64, .int .i64 200, .bool true, .int .i64 399] 42) = W := ⟨_, rfl⟩
 rw [hW2, hgl]
 obtain ⟨fl, hfl⟩ : ∃ l : List Fact, [(⟨-64, ⟨false, 63⟩⟩ : Fact), ⟨-2, ⟨false, 0⟩⟩, ⟨-2, ⟨true, 0⟩⟩, ⟨1, ⟨false, (p64 : Int)⟩⟩, ⟨200, ⟨true, 399⟩⟩] = l := ⟨_, rfl⟩
 have s5 : Sl W2 (fun b => b = gl) (some ⟨gl, 0, none⟩) 5 5 fl := by
  rw [← hW2, ← hfl]
  refine Sl.lit (S := fun _ => False) (us := [.int .i64 (-64), .bool false, .int .i64 63, .int .i64 (-2), .bool false, .int .i64 0, .int .i64 (-2), .bool true, .int .i64 0, .int .i64 1, .bool false, .int .i64 p64, .int .i64 200, .bool true, .int .i64 399]) hgl.symm ?_ rfl (by decide) (fun _ h => h.elim) rfl
  refine ⟨_, _, rfl, Fact.mk_ (x := ⟨-64, ⟨false, 63⟩⟩) (i0 (-64) (by omega)) (i0 63 (by omega)), _, _, rfl, Fact.mk_ (x := ⟨-2, ⟨false, 0⟩⟩) (i0 (-2) (by omega)) (i0 0 (by omega)), _, _, rfl, Fact.mk_ (x := ⟨-2, ⟨true, 0⟩⟩) (i0 (-2) (by omega)) (i0 0 (by omega)), _, _, rfl, Fact.mk_ (x := ⟨1, ⟨false, (p64 : Int)⟩⟩) (i0 1 (by omega)) (i0 p64 (by omega)), RepL.single ?_⟩
  exact Fact.mk_ (x := ⟨200, ⟨true, 399⟩⟩) (i0 200 (by omega)) (i0 399 (by omega))
 have hbV : Below W1.heap.size W1 W2 := by rw [← hW2]; exact HBc.out.alloc HBc.out.size _
 have HSZ2 := hide (show W2.heap.size = gl + 1 by rw [← hW2, ← hgl]; simp)
 have hgz : g3 + 1 < gl := by have h1 := HBc.out.size; have h2 := HSZ.out; omega
 have hr4 : W2.heap[g3 + 1]? = some (.cells #[.slice (some ⟨g3, 0, none⟩) p3 2, .slice none 0 0] 26 (0, 0)) := (hbV.block _ (by have := HSZ.out; omega)).trans HR4.out
 have hr0 : W2.heap[g0]? = some (.cells #[.slice none 0 0, .slice none 0 0] 26 (0, 0)) := (hbV.block _ (by have := HSZ.out; have := HG3.out; omega)).trans HR0.out
 have HFL := hide (show ∀ j, (fl.drop j).length ≤ 5 ∧ (fl.take j).length ≤ 5 from fun j => by rw [← hfl]; simp; omega)
 have HS5 := hide s5
 have HT2 := hide (HS3.out.belowAll hbV)
 have HB2 := hide (HB1.out.trans (hbV.mono HB1.out.size))
 have c0 : W2.cell? ⟨g3 + 1, 0, none⟩ = some (.slice (some ⟨g3, 0, none⟩) p3 2) := cell_of_row W2 _ _ _ _ (0, 0) hr4
 have c1 : W2.cell? ⟨g3 + 1, 1, none⟩ = some (.slice none 0 0) := cell_of_row W2 _ _ _ _ (0, 0) hr4
 have f1 : W2.frozen? ⟨g3 + 1, 1, none⟩ = false := by simp [World.frozen?, hr4]
 have cl : g3 + 1 < W2.heap.size := (Array.getElem?_eq_some_iff.1 hr4).1
 have HR4' := hide hr4; have HR0' := hide hr0
 clear hr4 hr0 hbV s5 hfl hgl hW2 HBc HR0 HR4 HS3 HB1 HF
 go_region
 obtain ⟨gr, hgr⟩ : ∃ g, W2.heap.size = g := ⟨_, rfl⟩
 obtain ⟨W3, hW3⟩ : ∃ W, ((W2.setCell ⟨g3 + 1, 1, none⟩ (.slice (some ⟨W2.heap.size, 0, none⟩) p4 3)).alloc (.cells #[.slice (some ⟨gl, p5 * 3, none⟩) (5 - p5) (5 - p5), .slice (some ⟨gl, 0, none⟩) p6 5, .slice none 0 0] 37)).drew = W := ⟨_, rfl⟩
 rw [hW3, hgr]
 rw [hgr] at hW3
 obtain ⟨rl, hrl⟩ : ∃ l : List (List Fact), [fl.drop p5, fl.take p6, []] = l := ⟨_, rfl⟩
 have hgr1 : gr = gl + 1 := by rw [← hgr]; exact HSZ2.out
 have sr : Sl W3 (fun b => gl ≤ b) (some ⟨gr, 0, none⟩) 3 3 rl := by
  have q5 : Sl (W2.setCell ⟨g3 + 1, 1, none⟩ (.slice (some ⟨gr, 0, none⟩) p4 3)) (fun b => gl ≤ b) (some ⟨gl, 0, none⟩) 5 5 fl := (HS5.out.setCell (a := ⟨g3 + 1, 1, none⟩) (by show ¬ g3 + 1 = gl; omega) _).more fun b _ h => by have h : b = gl := h; omega
  have d5 := q5.drop_ (j := p5) (by omega)
  rw [if_neg (by omega)] at d5
  have d5' : Sl (W2.setCell ⟨g3 + 1, 1, none⟩ (.slice (some ⟨gr, 0, none⟩) p4 3)) (fun b => gl ≤ b) (some ⟨gl, p5 * 3, none⟩) (5 - p5) (5 - p5) (fl.drop p5) := by
   have e : 0 + p5 * Rep.size Fact = p5 * 3 := by rw [Nat.zero_add]; rfl
   rw [e] at d5; exact d5
  rw [← hW3, ← hrl]
  refine Sl.drew (Sl.lit (n := 3) (S := fun b => gl ≤ b) (us := [.slice (some ⟨gl, p5 * 3, none⟩) (5 - p5) (5 - p5), .slice (some ⟨gl, 0, none⟩) p6 5, .slice none 0 0]) (by simp [hgr]) ?_ rfl (by decide) (fun _ h => h) (by show gl ≤ gr; omega))
  exact ⟨_, _, rfl, ⟨_, _, _, rfl, d5'⟩, _, _, rfl, ⟨_, _, _, rfl, q5.take_ l6⟩, RepL.single ⟨_, _, _, rfl, Sl.nil⟩⟩
 have hr4 : W3.heap[g3 + 1]? = some (.cells #[.slice (some ⟨g3, 0, none⟩) p3 2, .slice (some ⟨gr, 0, none⟩) p4 3] 26 (0, 0)) := by
  rw [← hW3]
  show ((W2.setCell _ _).alloc _).heap[g3 + 1]? = _
  rw [Below.heap_alloc _ _ _ (by simp; omega)]
  exact row_setB HR4'.out 1 _
 have hr0 : W3.heap[g0]? = some (.cells #[.slice none 0 0, .slice none 0 0] 26 (0, 0)) := by
  rw [← hW3]
  show ((W2.setCell _ _).alloc _).heap[g0]? = _
  have := HG3.out
  rw [Below.heap_alloc _ _ _ (by simp; omega), Below.heap_setCell _ _ _ _ (by show g0 ≠ g3 + 1; omega)]
  exact HR0'.out
 have t3 : Sl W3 (fun b => g0 < b ∧ b ≤ g3) (some ⟨g3, 0, none⟩) p3 2 (tl.take p3) := by
  rw [← hW3]
  exact ((HT2.out.setCell (a := ⟨g3 + 1, 1, none⟩) (by show ¬ (g0 < g3 + 1 ∧ g3 + 1 ≤ g3); omega) _).alloc _).drew
 have HRL := hide (show ∀ l ∈ rl.take p4, l.length ≤ 1000 from fun l hl => by
  have hl := List.mem_of_mem_take hl
  rw [← hrl] at hl
  simp only [List.mem_cons, List.not_mem_nil, or_false] at hl
  rcases hl with rfl | rfl | rfl
  ·have := (HFL.out p5).1; omega
  ·have := (HFL.out p6).2; omega
  ·simp)
 have HT3 := hide t3
 have HSR := hide (sr.take_ l4)
 have HB3 := hide (show Below w.heap.size w W3 from by
  have h3 := HG3.out; have h0 := HG0.out
  rw [← hW3]
  exact ((HB2.out.setCell (by show w.heap.size ≤ g3 + 1; omega) _).alloc (by simp; omega) _).drew)
 have hl0 : g0 < W3.heap.size := (Array.getElem?_eq_some_iff.1 hr0).1
 have hl4 : g3 + 1 < W3.heap.size := (Array.getElem?_eq_some_iff.1 hr4).1
 have e0 : W3.cell? ⟨g3 + 1, 0, none⟩ = some (.slice (some ⟨g3, 0, none⟩) p3 2) := cell_of_row W3 _ _ _ _ (0, 0) hr4
 have e1 : W3.cell? ⟨g3 + 1, 1, none⟩ = some (.slice (some ⟨gr, 0, none⟩) p4 3) := cell_of_row W3 _ _ _ _ (0, 0) hr4
 have r0 : W3.cell? ⟨g0, 0, none⟩ = some (.slice none 0 0) := cell_of_row W3 _ _ _ _ (0, 0) hr0
 have r1 : W3.cell? ⟨g0, 1, none⟩ = some (.slice none 0 0) := cell_of_row W3 _ _ _ _ (0, 0) hr0
 have z0 : W3.frozen? ⟨g0, 0, none⟩ = false := by simp [World.frozen?, hr0]
 have z1 : W3.frozen? ⟨g0, 1, none⟩ = false := by simp [World.frozen?, hr0]
 have HR3 := hide hr0
 clear hgr1 hr0 hr4 t3 sr hW3 c0 c1 f1 cl HR4' HR0' HS5 HT2 HB2 hgr hrl
 go_wp2_with fail
 have h3 := HG3.out; have h0 := HG0.out
 refine bodyPost_ret (results_cell_row Tryz.results23 _ _ g0 _ _ (0, 0) _ rfl (row_setB (row_setB HR3.out 0 _) 1 _) Tryz.underlying26 rfl (by kernel_rfl)) rfl ?_
 refine ⟨⟨tl.take p3, rl.take p4⟩, _, _, _, _, _, _, rfl, ?_, ?_, HTL.out, HRL.out, Below.to_ext ((HB3.out.setCell (by show w.heap.size ≤ g0; omega) _).setCell (by show w.heap.size ≤ g0; omega) _)⟩
 ·exact ((HT3.out.setCell (a := ⟨g0, 0, none⟩) (by show ¬ (g0 < g0 ∧ g0 ≤ g3); omega) _).setCell (a := ⟨g0, 1, none⟩) (by show ¬ (g0 < g0 ∧ g0 ≤ g3); omega) _).more fun _ _ _ => trivial
 ·exact ((HSR.out.setCell (a := ⟨g0, 0, none⟩) (by show ¬ (gl ≤ g0); omega) _).setCell (a := ⟨g0, 1, none⟩) (by show ¬ (gl ≤ g0); omega) _).more fun _ _ _ => trivial
end Go.Proofs.YtppkanniefignaaGreatDoor
