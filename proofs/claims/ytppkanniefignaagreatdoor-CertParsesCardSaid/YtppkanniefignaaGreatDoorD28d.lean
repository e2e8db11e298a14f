/- law28: walks: the document reads a tile. -/
import Derived.Test.YtppkanniefignaaGreatDoorG16
import Derived.Test.YtppkanniefignaaGreatDoorG23
set_option linter.unusedSimpArgs false
set_option linter.unusedVariables false
namespace Go.Proofs.YtppkanniefignaaGreatDoor
open Go.RowKit
/-- A number that the document's cursor tells, and the cursor behind it. -/
def DocI (S : Nat → Prop) (c : Nat) (s : Cur) (p : Int) : Post := fun v w => v = .int .i64 p ∧ DocAt w S c s
theorem DocI.stable_ {F : World → Prop} {S : Nat → Prop} {c : Nat} {s : Cur} {p : Int} {mem : Bool} (hm : mem = true) : stable F mem (DocI S c s p) :=
  stable_mem hm fun _ w u ⟨hv, h⟩ => ⟨hv, h.ext u⟩
theorem DocAt.alloc {w : World} {S : Nat → Prop} {c : Nat} {s : Cur} (h : DocAt w S c s) (o : Obj) : DocAt (w.alloc o) S c s := h.below ((Below.refl _ _).alloc (Nat.le_refl _) o)
theorem DocAt.leftM_ {w : World} {S : Nat → Prop} {c : Nat} {s : Cur} (h : DocAt w S c s) : leftM c w = leftC s := by
  obtain ⟨A, n, k, k0, k1, _, _, hs⟩ := h.at_
  unfold leftM leftC
  rw [k0, k1]
  have := hs.len
  rw [this]
/-- What stands while the document reads a tile: what is returned in block Z, the tile in block M, the cursor c. -/
structure DTt (w0 W : World) (Z M c : Nat) (S : Nat → Prop) (kd pr : Int) (v : Value) (l : List Int) (s : Cur) : Prop where
  zro : W.heap[Z]? = some (.cells #[.int .i64 0, .int .i64 0, .slice none 0 0] 35 (0, 0))
  row : W.heap[M]? = some (.cells #[.int .i64 kd, .int .i64 pr, v] 35 (0, 0))
  cur : DocAt W S c s
  own : OwnL W (M + 1) 3 (fun _ => False) v l
  only : Only c w0 W
  o1 : c < Z
  o2 : Z < M
  o3 : ∀ b, S b → b < Z
  o4 : w0.heap.size ≤ Z
section
variable {w0 W W' : World} {Z M c : Nat} {S : Nat → Prop} {kd pr : Int} {v v' : Value} {l l' : List Int} {s s' : Cur}
theorem DTt.zl (h : DTt w0 W Z M c S kd pr v l s) : Z < W.heap.size := (Array.getElem?_eq_some_iff.1 h.zro).1
theorem DTt.ml (h : DTt w0 W Z M c S kd pr v l s) : M < W.heap.size := (Array.getElem?_eq_some_iff.1 h.row).1
theorem DTt.call (h : DTt w0 W Z M c S kd pr v l s) (hon : Only c W W') (hat : DocAt W' S c s') : DTt w0 W' Z M c S kd pr v l s' where
  zro := (hon.block Z h.zl (by have := h.o1; omega)).trans h.zro
  row := (hon.block M h.ml (by have := h.o1; have := h.o2; omega)).trans h.row
  cur := hat
  own := h.own.keep hon.size (fun _ hf => hf.elim) fun g hg => hon.block g (h.own.below_ g hg).2 (by have := (h.own.below_ g hg).1; have := h.o1; have := h.o2; omega)
  only := h.only.trans hon
  o1 := h.o1
  o2 := h.o2
  o3 := h.o3
  o4 := h.o4
theorem DTt.ext (h : DTt w0 W Z M c S kd pr v l s) (u : Ext) : DTt w0 (W.ext u) Z M c S kd pr v l s := h.call ((Only.refl c W).ext u) (h.cur.ext u)
theorem DTt.alloc (h : DTt w0 W Z M c S kd pr v l s) (o : Obj) : DTt w0 (W.alloc o) Z M c S kd pr v l s := h.call ((Only.refl c W).alloc o) (h.cur.alloc o)
theorem DTt.set (h : DTt w0 W Z M c S kd pr v l s) {j : Nat} {x : Value} {kd' pr' : Int} (hr : (#[.int .i64 kd, .int .i64 pr, v] : Array Value).setIfInBounds j x = #[.int .i64 kd', .int .i64 pr', v']) (hv : OwnL W (M + 1) 3 (fun _ => False) v' l') : DTt w0 (W.setCell ⟨M, j, none⟩ x) Z M c S kd' pr' v' l' s where
  zro := (Below.heap_setCell W ⟨M, j, none⟩ x Z (by show Z ≠ M; have := h.o2; omega)).trans h.zro
  row := by rw [row_setB h.row, hr]
  cur := h.cur.keep (by simp) (Below.heap_setCell W ⟨M, j, none⟩ x c (by show c ≠ M; have := h.o1; have := h.o2; omega)) fun b hS _ => Below.heap_setCell W ⟨M, j, none⟩ x b (by show b ≠ M; have := h.o3 b hS; have := h.o2; omega)
  own := hv.setCell (fun e => e) (fun e => by have h5 : M + 1 ≤ M := (hv.below_ _ e).1; omega) x
  only := ⟨h.only.os, h.only.tape, h.only.output, by have := h.only.size; simpa using this, fun b hb hc => (Below.heap_setCell W ⟨M, j, none⟩ x b (by show b ≠ M; have := h.o2; have := h.o4; omega)).trans (h.only.block b hb hc)⟩
  o1 := h.o1
  o2 := h.o2
  o3 := h.o3
  o4 := h.o4
theorem DTt.grown (h : DTt w0 W Z M c S kd pr v l s) (hg : W.grownBy W' v.ownBlock) (ho : OwnL W' (M + 1) 3 (fun _ => False) v l) : DTt w0 W' Z M c S kd pr v l s := by
  have hr : ∀ b, b ≤ M → some b ≠ v.ownBlock := fun b hb e => by have := (h.own.below_ b e.symm).1; omega
  have hk : ∀ b, b < W.heap.size → b ≤ M → W'.heap[b]? = W.heap[b]? := fun b hb hm => hg.block b hb (hr b hm)
  have o1 := h.o1; have o2 := h.o2; have o4 := h.o4; have rl := h.zl; have ml := h.ml
  have hb0 : Below (M + 1) W W' := (Below.refl _ _).grown hg (by omega) (fun r e => (h.own.below_ r e).1)
  exact ⟨(hk Z rl (by omega)).trans h.zro, (hk M ml (by omega)).trans h.row, h.cur.keep hg.size (hk c (by omega) (by omega)) (fun b hS hb => hk b hb (by have := h.o3 b hS; omega)), ho, ⟨hb0.os.trans h.only.os, hb0.tape.trans h.only.tape, hb0.output.trans h.only.output, Nat.le_trans h.only.size hg.size, fun b hb hc => (hk b (by have := h.only.size; omega) (by omega)).trans (h.only.block b hb hc)⟩, o1, o2, h.o3, o4⟩
theorem DTt.cells (h : DTt w0 W Z M c S kd pr v l s) : W.cell? ⟨M, 0, none⟩ = some (.int .i64 kd) ∧ W.cell? ⟨M, 1, none⟩ = some (.int .i64 pr) ∧ W.cell? ⟨M, 2, none⟩ = some v ∧ W.frozen? ⟨M, 0, none⟩ = false ∧ W.frozen? ⟨M, 1, none⟩ = false ∧ W.frozen? ⟨M, 2, none⟩ = false ∧ M < W.heap.size := by
  obtain ⟨a, b, d⟩ := cells3 h.row
  exact ⟨a, b, d, by simp [World.frozen?, h.row], by simp [World.frozen?, h.row], by simp [World.frozen?, h.row], h.ml⟩
/-- What is returned is written. -/
theorem DTt.fin (h : DTt w0 W Z M c S kd pr v l s) (a b d : Value) : (((W.setCell ⟨Z, 0, none⟩ a).setCell ⟨Z, 1, none⟩ b).setCell ⟨Z, 2, none⟩ d).heap[Z]? = some (.cells #[a, b, d] 35 (0, 0)) ∧ OwnL (((W.setCell ⟨Z, 0, none⟩ a).setCell ⟨Z, 1, none⟩ b).setCell ⟨Z, 2, none⟩ d) (M + 1) 3 (fun _ => False) v l ∧ DocAt (((W.setCell ⟨Z, 0, none⟩ a).setCell ⟨Z, 1, none⟩ b).setCell ⟨Z, 2, none⟩ d) S c s ∧ Only c w0 (((W.setCell ⟨Z, 0, none⟩ a).setCell ⟨Z, 1, none⟩ b).setCell ⟨Z, 2, none⟩ d) := by
  have o1 := h.o1; have o2 := h.o2; have o4 := h.o4
  have hb : ∀ k, k ≠ Z → (((W.setCell ⟨Z, 0, none⟩ a).setCell ⟨Z, 1, none⟩ b).setCell ⟨Z, 2, none⟩ d).heap[k]? = W.heap[k]? := fun k hk =>
    (Below.heap_setCell _ ⟨Z, 2, none⟩ d k hk).trans ((Below.heap_setCell _ ⟨Z, 1, none⟩ b k hk).trans (Below.heap_setCell _ ⟨Z, 0, none⟩ a k hk))
  refine ⟨?_, ?_, ?_, ?_⟩
  · rw [row_setB (row_setB (row_setB h.zro 0 a) 1 b) 2 d]; rfl
  · exact h.own.keep (by simp) (fun _ hf => hf.elim) fun g hg => hb g (by have := (h.own.below_ g hg).1; omega)
  · exact h.cur.keep (by simp) (hb c (by omega)) fun k hS _ => hb k (by have := h.o3 k hS; omega)
  · exact ⟨h.only.os, h.only.tape, h.only.output, by have := h.only.size; simpa using this, fun k hk hc => (hb k (by omega)).trans (h.only.block k hk hc)⟩
theorem DTt.zcells (h : DTt w0 W Z M c S kd pr v l s) : W.cell? ⟨Z, 0, none⟩ = some (.int .i64 0) ∧ W.cell? ⟨Z, 1, none⟩ = some (.int .i64 0) ∧ W.cell? ⟨Z, 2, none⟩ = some (.slice none 0 0) ∧ W.frozen? ⟨Z, 0, none⟩ = false ∧ W.frozen? ⟨Z, 1, none⟩ = false ∧ W.frozen? ⟨Z, 2, none⟩ = false ∧ Z < W.heap.size := by
  obtain ⟨a, b, d⟩ := cells3 h.zro
  exact ⟨a, b, d, by simp [World.frozen?, h.zro], by simp [World.frozen?, h.zro], by simp [World.frozen?, h.zro], h.zl⟩
end
theorem kindsB_drop (k : Nat) (hk1 : 1 ≤ k) (hk4 : k ≤ 4) : kindsB.drop (k - 1) = kindT k :: kindsB.drop k := by
  rcases (by omega : k = 1 ∨ k = 2 ∨ k = 3 ∨ k = 4) with rfl | rfl | rfl | rfl <;> rfl
/-- A tile that the document has read, and the cursor behind it. -/
def TilePd (S : Nat → Prop) (c : Nat) (r : Tile × Cur) (w : World) (e : Ending) (w' : World) : Prop :=
  ∃ A n k, e = .returned (.agg #[.int .i64 r.1.kind, .int .i64 r.1.parent, .slice A n k]) ∧ OwnL w' w.heap.size 3 (fun _ => False) (.slice A n k) r.1.blocks ∧ DocAt w' S c r.2 ∧ Only c w w'
set_option maxRecDepth 100000 in
set_option maxHeartbeats 16000000 in
theorem dtile28_any (w : World) (S : Nat → Prop) (c : Nat) (s : Cur) (h : DocAt w S c s) (hl : leftC s ≤ 1099511627776) : Calls Tryz.prog 38 #[.pointer (some ⟨c, 0, none⟩)] w (TilePd S c (tileC s) w) := by
  obtain ⟨i0, hi, hz, hz1, hz2⟩ := info_parts info_int
  have HI0 := hide hi; have HZ := hide hz; have HZ1 := hide hz1; have HZ2 := hide hz2
  clear hi hz hz1 hz2
  have hlt := h.lt
  obtain ⟨Z, hR⟩ : ∃ R, w.heap.size = R := ⟨_, rfl⟩
  obtain ⟨M, hM⟩ : ∃ M, Z + 1 = M := ⟨_, rfl⟩
  obtain ⟨S1, hS1⟩ : ∃ S1 : Nat → Prop, S1 = fun b => S b ∧ b < Z := ⟨_, rfl⟩
  have HS1 := hide hS1; have HNS := hide h.nS
  have hat0 : DocAt w S1 c s := h.moreS (fun b hb hS => by rw [hS1]; exact ⟨hS, by omega⟩) (by rw [hS1]; exact fun e => h.nS e.1)
  obtain ⟨W1, hW1⟩ : ∃ W1, (w.alloc (.cells #[.int .i64 0, .int .i64 0, .slice none 0 0] 35)).alloc (.cells #[.int .i64 0, .int .i64 0, .slice none 0 0] 35) = W1 := ⟨_, rfl⟩
  have HT1 := hide (show DTt w W1 Z M c S1 0 0 (.slice none 0 0) [] s from by
    refine ⟨?_, ?_, ?_, OwnL.nil_ _ _ _ _, ?_, by omega, by omega, fun b hb => by rw [hS1] at hb; exact hb.2, by omega⟩
    · rw [← hW1, Below.heap_alloc _ _ _ (by simp; omega), ← hR]; exact heap_alloc_new w _
    · have h := heap_alloc_new (w.alloc (.cells #[.int .i64 0, .int .i64 0, .slice none 0 0] 35)) (.cells #[.int .i64 0, .int .i64 0, .slice none 0 0] 35 (0, 0))
      rw [← hW1, ← hM, ← hR]; simpa using h
    · rw [← hW1]; exact (hat0.alloc _).alloc _
    · rw [← hW1]; exact ((Only.refl c w).alloc _).alloc _)
  have HSZ := hide hR
  have HMQ := hide hM
  have HWQ := hide hW1
  clear h hat0 hS1 hW1 hR hM
  obtain ⟨K, hK⟩ : ∃ K, kindC kindsB 1 s = K := ⟨_, rfl⟩
  have hk4 : K.1 ≤ 4 := by have := kind_le kindsB 1 s; rw [hK] at this; rcases this with h | h; omega; have h : K.1 < 1 + 4 := h; omega
  obtain ⟨b0, hb0⟩ : ∃ b, (K.1 != 0) = b := ⟨_, rfl⟩
  obtain ⟨P, hP⟩ : ∃ P, numC (-1) 199 (unlessC b0 7 K.2) = P := ⟨_, rfl⟩
  obtain ⟨s3, hs3⟩ : ∃ s3, markC [tColon] P.2 = s3 := ⟨_, rfl⟩
  obtain ⟨BB, hBB⟩ : ∃ BB, blocksC ([], s3) = BB := ⟨_, rfl⟩
  have hT : tileC s = (⟨(K.1 : Int), P.1, BB.1⟩, endC BB.2) := by
    unfold tileC
    simp only
    rw [hK, hb0, hP, hs3, hBB]
  have hl3 : leftC s3 ≤ 1099511627776 := by
    have h1 := left_kind kindsB 1 s
    have h2 := left_unless (x := 7) (by decide) b0 K.2
    have h3 := left_num (-1) 199 (unlessC b0 7 K.2)
    have h4 := left_mark [tColon] P.2
    rw [hK] at h1; rw [hP] at h3; rw [hs3] at h4
    omega
  have hpr := numC_rng (lo := -1) (hi := 199) (by decide) (by decide) (unlessC b0 7 K.2)
  rw [hP] at hpr
  rw [hT]
  have HPR := hide hpr
  have HPQ := hide hP; have HS3 := hide hs3; have HBB := hide hBB; have HL3 := hide hl3; have HB0 := hide hb0
  have HK0 := hide (show kindC (kindsB.drop (1 - 1)) 1 s = K from hK)
  have HK4 := hide hk4
  clear hT hP hs3 hBB hl hl3 hpr hb0 hK hk4
  go_enter Tryz.func38, Tryz.ntmps38
  go_wp2_with fail
  try rw [HSZ.out]
  try rw [HMQ.out]
  try rw [HWQ.out]
  go_loopw [4] (fun a wr => ∃ (k kd : Nat) (s' : Cur), a = .int .i64 k ∧ 1 ≤ k ∧ k ≤ 5 ∧ DTt w wr Z M c S1 kd 0 (.slice none 0 0) [] s' ∧ ((kd = 0 ∧ kindC (kindsB.drop (k - 1)) k s' = K) ∨ (kd ≠ 0 ∧ K = (kd, s')))) (fun a _ => 5 - (intOf a).toNat)
  case atStart => exact ⟨1, 0, s, rfl, Nat.le_refl _, by omega, HT1.out, .inl ⟨rfl, HK0.out⟩⟩
  case round =>
    obtain ⟨k, kd, s', rfl, hk1, hk5, ht, hkk⟩ := hrel
    have HT := hide ht
    clear ht
    obtain ⟨m0, m1, m2, f0, f1, f2, ml⟩ := HT.out.cells
    by_cases hgo : k ≤ 4 ∧ kd = 0
    · obtain ⟨hk4, rfl⟩ := hgo
      have HKC := hide (show kindC (kindT k :: kindsB.drop k) k s' = K from by rcases hkk with h | h; rw [← kindsB_drop k hk1 hk4]; exact h.2; exact absurd rfl h.1)
      clear hkk
      have HKD := hide (kind28_any k hk1 hk4 wr)
      have c1 : decide ((k : Int) ≤ 4) = true := by simp; omega
      have hwk : IntKind.i64.wrap ((k : Int) + 1) = (k : Int) + 1 := IntWalk.i64_in _ (by omega)
      cases hb : isC (.nm (kindT k)) s' with
      | true =>
        have HKE := hide (show K = (k, popC s') from by rw [← HKC.out, kindC_cons, if_pos hb])
        have HKY := hide (fun (u : Ext) => show Calls Tryz.prog 36 #[.pointer (some ⟨c, 0, none⟩), .string (kindT k)] (wr.ext u) (DocP S1 c (wr.ext u) (popC s') (.bool true)) from by have h := dKey (HT.out.ext u).cur (kindT k); rw [hb] at h; exact h)
        clear hb HKC
        go_wp2_with (first | (go_at_call 86; (with_reducible refine HKD.out.mono ?_); rintro e _ ⟨rfl, u, rfl⟩; have HU := hide (HT.out.ext u)) | (go_at_call 36; (with_reducible refine (HKY.out _).mono ?_); rintro e V ⟨rfl, hat, hon⟩; have HV := hide (HU.out.call hon hat); clear hat hon; refine Hd.out ?_))
        clear m0 m1 m2 f0 f1 f2 ml
        obtain ⟨m0, m1, m2, f0, f1, f2, ml⟩ := HV.out.cells
        refine hide ?_
        go_wp2_with fail
        obtain ⟨Y1, hY1⟩ : ∃ Y, V.setCell ⟨M, 0, none⟩ (.int .i64 k) = Y := ⟨_, rfl⟩
        have HY := hide (show DTt w Y1 Z M c S1 k 0 (.slice none 0 0) [] (popC s') from by rw [← hY1]; exact HV.out.set rfl HV.out.own)
        try rw [hY1]
        clear hY1
        go_roundw
        case rel => exact ⟨k + 1, k, popC s', by go_num, by omega, by omega, HY.out, .inr ⟨by omega, HKE.out⟩⟩
        case measure => simp [intOf]; omega
      | false =>
        have HKE := hide (show kindC (kindsB.drop (k + 1 - 1)) (k + 1) s' = K from by rw [← HKC.out, kindC_cons, if_neg (by rw [hb]; decide)]; rfl)
        have HKY := hide (fun (u : Ext) => show Calls Tryz.prog 36 #[.pointer (some ⟨c, 0, none⟩), .string (kindT k)] (wr.ext u) (DocP S1 c (wr.ext u) s' (.bool false)) from by have h := dKey (HT.out.ext u).cur (kindT k); rw [hb] at h; exact h)
        clear hb HKC
        go_wp2_with (first | (go_at_call 86; (with_reducible refine HKD.out.mono ?_); rintro e _ ⟨rfl, u, rfl⟩; have HU := hide (HT.out.ext u)) | (go_at_call 36; (with_reducible refine (HKY.out _).mono ?_); rintro e V ⟨rfl, hat, hon⟩; have HV := hide (HU.out.call hon hat); clear hat hon))
        go_roundw
        case rel => exact ⟨k + 1, 0, s', by go_num, by omega, by omega, HV.out, .inl ⟨rfl, HKE.out⟩⟩
        case measure => simp [intOf]; omega
    · have HKE := hide (show K = (kd, s') from by
        rcases hkk with ⟨h1, h2⟩ | h
        · have hk : k = 5 := by omega
          subst hk h1
          exact h2.symm
        · exact h.2)
      clear hkk
      have HNM := hide (fun (W : World) (h : DocAt W S1 c (unlessC b0 7 K.2)) => show Calls Tryz.prog 87 #[.pointer (some ⟨c, 0, none⟩), .int .i64 (-1), .int .i64 199] W (DocP S1 c W P.2 (.int .i64 P.1)) from by have h := dNum h (-1) 199; rw [HPQ.out] at h; exact h)
      have hkd4 : kd ≤ 4 := by have h1 := HK4.out; rw [HKE.out] at h1; exact h1
      by_cases hkd : kd = 0
      · have hk : k = 5 := by omega
        have hkb : ((kd : Int) == 0) = true := by simp; omega
        have c1 : decide ((k : Int) ≤ 4) = false := by simp; omega
        have HB := hide (show unlessC b0 7 K.2 = failC 7 s' from by rw [← HB0.out, HKE.out, hkd]; rfl)
        have HFL := hide (show Calls Tryz.prog 37 #[.pointer (some ⟨c, 0, none⟩), .int .i64 7] wr (DocP S1 c wr (failC 7 s') (.tuple #[])) from dFail HT.out.cur 7)
        clear hk hgo hkd
        go_wp2_with (first | (go_at_call 37; (with_reducible refine HFL.out.mono ?_); rintro e V9 ⟨rfl, hat, hon⟩; have HT9 := hide (show DTt w V9 Z M c S1 kd 0 (.slice none 0 0) [] (unlessC b0 7 K.2) from HB.out ▸ HT.out.call hon hat); clear hat hon) | (go_at_call 87; refine Hd.out ?_))
        refine hide ?_
        (with_reducible refine (HNM.out _ HT9.out.cur).mono ?_)
        rintro e V10 ⟨rfl, hat, hon⟩
        have HT10 := hide (HT9.out.call hon hat)
        clear hat hon m0 m1 m2 f0 f1 f2 ml
        obtain ⟨m0, m1, m2, f0, f1, f2, ml⟩ := HT10.out.cells
        obtain ⟨Y2, hY2⟩ : ∃ Y, V10.setCell ⟨M, 1, none⟩ (.int .i64 P.1) = Y := ⟨_, rfl⟩
        have HT11 := hide (show DTt w Y2 Z M c S1 kd P.1 (.slice none 0 0) [] P.2 from by rw [← hY2]; exact HT10.out.set rfl HT10.out.own)
        have HMK := hide (show Calls Tryz.prog 88 #[.pointer (some ⟨c, 0, none⟩), .slice (some ⟨Y2.heap.size, 0, none⟩) 1 1] (Y2.alloc (.cells #[.string ⟨#[58]⟩] 9)) (DocP S1 c (Y2.alloc (.cells #[.string ⟨#[58]⟩] 9)) s3 (.tuple #[])) from by
          have h := dMark (HT11.out.alloc (.cells #[.string ⟨#[58]⟩] 9)).cur (ts := [tColon]) (Sl.lit (S := fun _ => False) (S' := fun b => c < b) (us := [.string ⟨#[58]⟩]) rfl ⟨[.string ⟨#[58]⟩], [], rfl, ⟨rfl, by unfold maxLen; decide⟩, rfl⟩ rfl (by decide) (fun _ h => h.elim) (by have := HT11.out.o1; have := HT11.out.zl; omega)) (by show ¬ c < c; omega)
          rw [HS3.out] at h
          exact h)
        go_wp2_with (first | (go_at_call 88; (with_reducible refine HMK.out.mono ?_); rintro e V5 ⟨rfl, hat, hon⟩; have HT12 := hide ((HT11.out.alloc (.cells #[.string ⟨#[58]⟩] 9)).call hon hat); clear hat hon))
        clear hY2 HMK HT10 HT11 HT9 m0 m1 m2 f0 f1 f2 ml
        go_loopw [] (fun wr => ∃ (A : Option Addr) (n k : Nat) (l : List Int) (s' : Cur), l.length = n ∧ DTt w wr Z M c S1 kd P.1 (.slice A n k) l s' ∧ blocksC (l, s') = BB ∧ n + leftC s' ≤ 1099511627776 ∧ (n ≤ 200 ∨ leftC s' = 0)) (fun wr => leftM c wr)
        case atStart => exact ⟨none, 0, 0, [], s3, rfl, HT12.out, HBB.out, by have := HL3.out; simpa using this, .inl (by omega)⟩
        case round =>
          obtain ⟨A, n, k2, l, s4, hn, ht, hbb, hll, hnx⟩ := hrel
          have HT13 := hide ht; have HBQ := hide hbb; have HN := hide hn; have HLL := hide hll; have HNX0 := hide hnx
          have HEN := hide (dEnds ht.cur)
          have HLE := hide ht.cur.leftM_
          clear ht hbb hn hll hnx HT12
          obtain ⟨m0, m1, m2, f0, f1, f2, ml⟩ := HT13.out.cells
          cases he : endsC s4 with
          | true =>
            rw [he] at HEN
            have HE := hide (show BB = (l, s4) from by rw [← HBQ.out, blocksC_stop (show blockG (l, s4) = none from if_pos he)])
            clear he
            have HED := hide (dEnd HT13.out.cur)
            go_wp2_with (first | (go_at_call 89; (with_reducible refine HEN.out.mono ?_); rintro e w' ⟨rfl, rfl⟩) | (go_at_call 90; (with_reducible refine HED.out.mono ?_); rintro e V6 ⟨rfl, hat, hon⟩; have HT14 := hide (HT13.out.call hon hat); clear hat hon; refine Hd.out ?_))
            clear m0 m1 m2 f0 f1 f2 ml
            obtain ⟨m0, m1, m2, f0, f1, f2, ml⟩ := HT14.out.cells
            obtain ⟨z0, z1, z2, y0, y1, y2, zl⟩ := HT14.out.zcells
            have HFN := hide (HT14.out.fin (.int .i64 kd) (.int .i64 P.1) (.slice A n k2))
            refine hide ?_
            go_wp2_with fail
            refine bodyPost_ret (results_cell_row Tryz.results38 _ _ Z _ _ (0, 0) _ rfl HFN.out.1 Tryz.underlying35 rfl (by kernel_rfl)) rfl ?_
            rw [HE.out, HKE.out]
            exact ⟨A, n, k2, rfl, HFN.out.2.1.lower28 (by have := HT14.out.o2; have := HT14.out.o4; omega), HFN.out.2.2.1.moreS (fun b _ h => by rw [HS1.out] at h; exact h.1) HNS.out, HFN.out.2.2.2⟩
          | false =>
            rw [he] at HEN
            have HEE := hide he
            have hn200 : n ≤ 200 := by have h1 := left_ends he; rcases HNX0.out with h | h; exact h; omega
            clear he
            by_cases hn2 : n = 200
            · obtain ⟨s1, hs1⟩ : ∃ s1, failC 3 s4 = s1 := ⟨_, rfl⟩
              have hnb : ((n : Int) == 200) = true := by simp; omega
              have HS1Q := hide (show unlessC (decide (l.length < 200)) 3 s4 = s1 from by rw [HN.out, hn2]; exact hs1)
              have HNX := hide (show ∀ q, numC 0 199 s1 = q → (n + 1 ≤ 200 ∨ leftC q.2 = 0) from fun q hq => .inr (by have h1 := left_num 0 199 s1; have h2 := left_fail (x := 3) (by decide) s4; rw [hs1] at h2; rw [hq] at h1; omega))
              have HFL := hide (show Calls Tryz.prog 37 #[.pointer (some ⟨c, 0, none⟩), .int .i64 3] wr (DocP S1 c wr s1 (.tuple #[])) from hs1 ▸ dFail HT13.out.cur 3)
              clear hn2 hs1
              go_wp2_with (first | (go_at_call 89; (with_reducible refine HEN.out.mono ?_); rintro e w' ⟨rfl, rfl⟩) | (go_at_call 37; (with_reducible refine HFL.out.mono ?_); rintro e V6 ⟨rfl, hat, hon⟩; have HT14 := hide (HT13.out.call hon hat); clear hat hon))
              clear m0 m1 m2 f0 f1 f2 ml HFL HEN
              obtain ⟨q, hq⟩ : ∃ q, numC 0 199 s1 = q := ⟨_, rfl⟩
              have hgo2 : blockG (l, s4) = some (l ++ [q.1], q.2) := by
                unfold blockG
                rw [if_neg (by simp only; rw [HEE.out]; decide)]
                simp only
                rw [HS1Q.out, hq]
              have HGO := hide (show blocksC (l ++ [q.1], q.2) = BB from by rw [← HBQ.out, blocksC_go hgo2])
              have HDEC := hide (show leftC q.2 < leftC s4 from blockG_dec _ _ hgo2)
              have HQR := hide (show 0 ≤ q.1 ∧ q.1 ≤ 199 from hq ▸ numC_rng (lo := 0) (hi := 199) (by decide) (by decide) s1)
              have HQ := hide hq
              clear hgo2 hq
              obtain ⟨m0, m1, m2, f0, f1, f2, ml⟩ := HT14.out.cells
              have hcM : M ≠ c := by have := HT14.out.o1; have := HT14.out.o2; omega
              refine wp_region_cur c [3] [3, 4] 5 (by kernel_rfl) rfl (by kernel_rfl) (by kernel_rfl) ?_
              simp only [List.take_succ_cons, List.take_zero, List.drop_succ_cons, List.drop_zero]
              repeat (refine flowG_known (by kernel_rfl) (fun K hK => ?_); go_simp; (first | (refine hK _ ?_; clear hK K) | (apply Exists.intro; refine ⟨fun w' => ?_, hK _ ?_⟩; (fail); clear hK K)))
              refine flowG_knownF (by kernel_rfl) (fun K hK => ⟨.slice A n k2, fun W' hW' => ?_, hK _ ?_⟩)
              · have x0 : W'.cell? ⟨M, 2, none⟩ = some (.slice A n k2) := (World.cell?_of_block (hW'.block M ml hcM)).trans m2
                have x1 : M < W'.heap.size := Nat.lt_of_lt_of_le ml hW'.size
                go_simp
              clear hK K
              repeat (refine flowG_known (by kernel_rfl) (fun K hK => ?_); go_simp; (first | (refine hK _ ?_; clear hK K) | (apply Exists.intro; refine ⟨fun w' => ?_, hK _ ?_⟩; (fail); clear hK K)))
              refine flowG_keep [] (DocI S1 c q.2 q.1) (by kernel_rfl) (DocI.stable_ rfl) (by kernel_rfl) (fun u hF => ?_) ?_
              · try simp only [List.nil_append, List.cons_append, useH_f, useH_t, useH_nil]
                go_simp
                have hnum := dNum (HT14.out.cur.ext u) 0 199
                rw [HQ.out] at hnum
                refine hnum.mono ?_
                rintro e w' ⟨rfl, hat, hon⟩
                exact ⟨_, rfl, ⟨rfl, hat⟩, hF.trans hon, fun h => by cases h⟩
              refine flowG_keepF [true] (LitB V6.heap.size 3 [.int .i64 q.1] 1) (by kernel_rfl) (LitB.stable_ rfl) (fun W' hW' => ?_) ?_
              · try simp only [List.nil_append, List.cons_append, useH_f, useH_t, useH_nil]
                rintro _ ⟨rfl, hat⟩
                go_simp
                exact ⟨⟨_, rfl, hW'.size, heap_alloc_new W' _⟩, hW'.alloc _, fun _ => ext_alloc W' _⟩
              refine flowG_done [true, true] (by kernel_rfl) (fun W' hW' => ?_)
              simp only [List.nil_append, List.cons_append, endH_f, endH_t, endH_nil]
              rintro _ ⟨rfl, hat⟩ _ ⟨g, rfl, hg, hrow⟩
              go_simp
              have HTW := hide (HT14.out.call hW' hat)
              have HRW := hide hrow
              clear hat hrow
              clear m0 m1 m2 f0 f1 f2 ml
              have hv9 : 0 ≤ q.1 ∧ q.1 ≤ 199 := HQR.out
              refine wpList_pushK W' rfl (.tmp 41) (.tmp 44) 33 rfl (M + 1) 3 i0 _ 8 Tryz.underlying33 HI0.out HZ.out HZ1.out HZ2.out rfl (.slice A n k2) l [q.1] rfl HTW.out.own ⟨g, 0, none⟩ 1 1 rfl rfl (by intro y hy; simp at hy; rw [hy]; unfold InI; omega) (fun j y hj => lit_news HRW.out j _ (by rw [List.getElem?_eq_some_iff] at hj ⊢; obtain ⟨h1, h2⟩ := hj; simp at h1; subst h1; simp at h2; exact ⟨by simp, by simp [h2]⟩)) (by have := HN.out; have := HLL.out; unfold maxLen; omega) (by have := HN.out; have := HLL.out; omega) (by have := HTW.out.ml; omega) ?_
              intro v' W2 ho1 ho2 hgr h5
              have HTG := hide (HTW.out.grown hgr ho2)
              obtain ⟨A', k', rfl⟩ := ho1.form
              have hl1 : (l ++ [q.1]).length = n + 1 := by rw [List.length_append, HN.out]; rfl
              rw [hl1] at ho1 ⊢
              have HO1 := hide ho1
              clear ho1 ho2 hgr h5 hv9
              obtain ⟨m0, m1, m2, f0, f1, f2, ml⟩ := HTG.out.cells
              obtain ⟨Y3, hY3⟩ : ∃ Y, W2.setCell ⟨M, 2, none⟩ (.slice A' (n + 1) k') = Y := ⟨_, rfl⟩
              have HTY := hide (show DTt w Y3 Z M c S1 kd P.1 (.slice A' (n + 1) k') (l ++ [q.1]) q.2 from by rw [← hY3]; exact HTG.out.set rfl HO1.out)
              go_wp2_with fail
              try rw [hY3]
              have HLY := hide HTY.out.cur.leftM_
              clear hY3
              go_roundw
              case rel => exact ⟨A', n + 1, k', l ++ [q.1], q.2, hl1, HTY.out, HGO.out, by have := HLL.out; have := HDEC.out; omega, HNX.out _ HQ.out⟩
              case measure => rw [HLY.out, HLE.out]; exact HDEC.out
            · obtain ⟨s1, hs1⟩ : ∃ s1, s4 = s1 := ⟨_, rfl⟩
              have hnb : ((n : Int) == 200) = false := by simp; omega
              have HS1Q := hide (show unlessC (decide (l.length < 200)) 3 s4 = s1 from by rw [HN.out, decide_eq_true (by omega)]; exact hs1)
              have HNX := hide (show ∀ q, numC 0 199 s1 = q → (n + 1 ≤ 200 ∨ leftC q.2 = 0) from fun q hq => .inl (by omega))
              have HT14 := hide (hs1 ▸ HT13.out)
              clear hn2 hs1
              go_wp2_with (first | (go_at_call 89; (with_reducible refine HEN.out.mono ?_); rintro e w' ⟨rfl, rfl⟩))
              clear m0 m1 m2 f0 f1 f2 ml HEN
              obtain ⟨V6, hV6⟩ : ∃ V, wr = V := ⟨_, rfl⟩
              rw [hV6] at HT14 ⊢
              obtain ⟨q, hq⟩ : ∃ q, numC 0 199 s1 = q := ⟨_, rfl⟩
              have hgo2 : blockG (l, s4) = some (l ++ [q.1], q.2) := by
                unfold blockG
                rw [if_neg (by simp only; rw [HEE.out]; decide)]
                simp only
                rw [HS1Q.out, hq]
              have HGO := hide (show blocksC (l ++ [q.1], q.2) = BB from by rw [← HBQ.out, blocksC_go hgo2])
              have HDEC := hide (show leftC q.2 < leftC s4 from blockG_dec _ _ hgo2)
              have HQR := hide (show 0 ≤ q.1 ∧ q.1 ≤ 199 from hq ▸ numC_rng (lo := 0) (hi := 199) (by decide) (by decide) s1)
              have HQ := hide hq
              clear hgo2 hq
              obtain ⟨m0, m1, m2, f0, f1, f2, ml⟩ := HT14.out.cells
              have hcM : M ≠ c := by have := HT14.out.o1; have := HT14.out.o2; omega
              refine wp_region_cur c [3] [3, 4] 5 (by kernel_rfl) rfl (by kernel_rfl) (by kernel_rfl) ?_
              simp only [List.take_succ_cons, List.take_zero, List.drop_succ_cons, List.drop_zero]
              repeat (refine flowG_known (by kernel_rfl) (fun K hK => ?_); go_simp; (first | (refine hK _ ?_; clear hK K) | (apply Exists.intro; refine ⟨fun w' => ?_, hK _ ?_⟩; (fail); clear hK K)))
              refine flowG_knownF (by kernel_rfl) (fun K hK => ⟨.slice A n k2, fun W' hW' => ?_, hK _ ?_⟩)
              · have x0 : W'.cell? ⟨M, 2, none⟩ = some (.slice A n k2) := (World.cell?_of_block (hW'.block M ml hcM)).trans m2
                have x1 : M < W'.heap.size := Nat.lt_of_lt_of_le ml hW'.size
                go_simp
              clear hK K
              repeat (refine flowG_known (by kernel_rfl) (fun K hK => ?_); go_simp; (first | (refine hK _ ?_; clear hK K) | (apply Exists.intro; refine ⟨fun w' => ?_, hK _ ?_⟩; (fail); clear hK K)))
              refine flowG_keep [] (DocI S1 c q.2 q.1) (by kernel_rfl) (DocI.stable_ rfl) (by kernel_rfl) (fun u hF => ?_) ?_
              · try simp only [List.nil_append, List.cons_append, useH_f, useH_t, useH_nil]
                go_simp
                have hnum := dNum (HT14.out.cur.ext u) 0 199
                rw [HQ.out] at hnum
                refine hnum.mono ?_
                rintro e w' ⟨rfl, hat, hon⟩
                exact ⟨_, rfl, ⟨rfl, hat⟩, hF.trans hon, fun h => by cases h⟩
              refine flowG_keepF [true] (LitB V6.heap.size 3 [.int .i64 q.1] 1) (by kernel_rfl) (LitB.stable_ rfl) (fun W' hW' => ?_) ?_
              · try simp only [List.nil_append, List.cons_append, useH_f, useH_t, useH_nil]
                rintro _ ⟨rfl, hat⟩
                go_simp
                exact ⟨⟨_, rfl, hW'.size, heap_alloc_new W' _⟩, hW'.alloc _, fun _ => ext_alloc W' _⟩
              refine flowG_done [true, true] (by kernel_rfl) (fun W' hW' => ?_)
              simp only [List.nil_append, List.cons_append, endH_f, endH_t, endH_nil]
              rintro _ ⟨rfl, hat⟩ _ ⟨g, rfl, hg, hrow⟩
              go_simp
              have HTW := hide (HT14.out.call hW' hat)
              have HRW := hide hrow
              clear hat hrow
              clear m0 m1 m2 f0 f1 f2 ml
              have hv9 : 0 ≤ q.1 ∧ q.1 ≤ 199 := HQR.out
              refine wpList_pushK W' rfl (.tmp 41) (.tmp 44) 33 rfl (M + 1) 3 i0 _ 8 Tryz.underlying33 HI0.out HZ.out HZ1.out HZ2.out rfl (.slice A n k2) l [q.1] rfl HTW.out.own ⟨g, 0, none⟩ 1 1 rfl rfl (by intro y hy; simp at hy; rw [hy]; unfold InI; omega) (fun j y hj => lit_news HRW.out j _ (by rw [List.getElem?_eq_some_iff] at hj ⊢; obtain ⟨h1, h2⟩ := hj; simp at h1; subst h1; simp at h2; exact ⟨by simp, by simp [h2]⟩)) (by have := HN.out; have := HLL.out; unfold maxLen; omega) (by have := HN.out; have := HLL.out; omega) (by have := HTW.out.ml; omega) ?_
              intro v' W2 ho1 ho2 hgr h5
              have HTG := hide (HTW.out.grown hgr ho2)
              obtain ⟨A', k', rfl⟩ := ho1.form
              have hl1 : (l ++ [q.1]).length = n + 1 := by rw [List.length_append, HN.out]; rfl
              rw [hl1] at ho1 ⊢
              have HO1 := hide ho1
              clear ho1 ho2 hgr h5 hv9
              obtain ⟨m0, m1, m2, f0, f1, f2, ml⟩ := HTG.out.cells
              obtain ⟨Y3, hY3⟩ : ∃ Y, W2.setCell ⟨M, 2, none⟩ (.slice A' (n + 1) k') = Y := ⟨_, rfl⟩
              have HTY := hide (show DTt w Y3 Z M c S1 kd P.1 (.slice A' (n + 1) k') (l ++ [q.1]) q.2 from by rw [← hY3]; exact HTG.out.set rfl HO1.out)
              go_wp2_with fail
              try rw [hY3]
              have HLY := hide HTY.out.cur.leftM_
              clear hY3
              go_roundw
              case rel => exact ⟨A', n + 1, k', l ++ [q.1], q.2, hl1, HTY.out, HGO.out, by have := HLL.out; have := HDEC.out; omega, HNX.out _ HQ.out⟩
              case measure => rw [HLY.out, HLE.out]; exact HDEC.out
      · have HB := hide (show unlessC b0 7 K.2 = s' from by rw [← HB0.out, HKE.out]; unfold unlessC; rw [if_pos (by simp; omega)])
        have HT9 := hide (show DTt w wr Z M c S1 kd 0 (.slice none 0 0) [] (unlessC b0 7 K.2) from HB.out ▸ HT.out)
        have hkb : ((kd : Int) == 0) = false := by simp; omega
        by_cases hk : k ≤ 4
        · have c1 : decide ((k : Int) ≤ 4) = true := by simp; omega
          go_wp2_with (first | (go_at_call 87; refine Hd.out ?_))
          refine hide ?_
          (with_reducible refine (HNM.out _ HT9.out.cur).mono ?_)
          rintro e V10 ⟨rfl, hat, hon⟩
          have HT10 := hide (HT9.out.call hon hat)
          clear hat hon m0 m1 m2 f0 f1 f2 ml
          obtain ⟨m0, m1, m2, f0, f1, f2, ml⟩ := HT10.out.cells
          obtain ⟨Y2, hY2⟩ : ∃ Y, V10.setCell ⟨M, 1, none⟩ (.int .i64 P.1) = Y := ⟨_, rfl⟩
          have HT11 := hide (show DTt w Y2 Z M c S1 kd P.1 (.slice none 0 0) [] P.2 from by rw [← hY2]; exact HT10.out.set rfl HT10.out.own)
          have HMK := hide (show Calls Tryz.prog 88 #[.pointer (some ⟨c, 0, none⟩), .slice (some ⟨Y2.heap.size, 0, none⟩) 1 1] (Y2.alloc (.cells #[.string ⟨#[58]⟩] 9)) (DocP S1 c (Y2.alloc (.cells #[.string ⟨#[58]⟩] 9)) s3 (.tuple #[])) from by
            have h := dMark (HT11.out.alloc (.cells #[.string ⟨#[58]⟩] 9)).cur (ts := [tColon]) (Sl.lit (S := fun _ => False) (S' := fun b => c < b) (us := [.string ⟨#[58]⟩]) rfl ⟨[.string ⟨#[58]⟩], [], rfl, ⟨rfl, by unfold maxLen; decide⟩, rfl⟩ rfl (by decide) (fun _ h => h.elim) (by have := HT11.out.o1; have := HT11.out.zl; omega)) (by show ¬ c < c; omega)
            rw [HS3.out] at h
            exact h)
          go_wp2_with (first | (go_at_call 88; (with_reducible refine HMK.out.mono ?_); rintro e V5 ⟨rfl, hat, hon⟩; have HT12 := hide ((HT11.out.alloc (.cells #[.string ⟨#[58]⟩] 9)).call hon hat); clear hat hon))
          clear hY2 HMK HT10 HT11 HT9 m0 m1 m2 f0 f1 f2 ml
          go_loopw [] (fun wr => ∃ (A : Option Addr) (n k : Nat) (l : List Int) (s' : Cur), l.length = n ∧ DTt w wr Z M c S1 kd P.1 (.slice A n k) l s' ∧ blocksC (l, s') = BB ∧ n + leftC s' ≤ 1099511627776 ∧ (n ≤ 200 ∨ leftC s' = 0)) (fun wr => leftM c wr)
          case atStart => exact ⟨none, 0, 0, [], s3, rfl, HT12.out, HBB.out, by have := HL3.out; simpa using this, .inl (by omega)⟩
          case round =>
            obtain ⟨A, n, k2, l, s4, hn, ht, hbb, hll, hnx⟩ := hrel
            have HT13 := hide ht; have HBQ := hide hbb; have HN := hide hn; have HLL := hide hll; have HNX0 := hide hnx
            have HEN := hide (dEnds ht.cur)
            have HLE := hide ht.cur.leftM_
            clear ht hbb hn hll hnx HT12
            obtain ⟨m0, m1, m2, f0, f1, f2, ml⟩ := HT13.out.cells
            cases he : endsC s4 with
            | true =>
              rw [he] at HEN
              have HE := hide (show BB = (l, s4) from by rw [← HBQ.out, blocksC_stop (show blockG (l, s4) = none from if_pos he)])
              clear he
              have HED := hide (dEnd HT13.out.cur)
              go_wp2_with (first | (go_at_call 89; (with_reducible refine HEN.out.mono ?_); rintro e w' ⟨rfl, rfl⟩) | (go_at_call 90; (with_reducible refine HED.out.mono ?_); rintro e V6 ⟨rfl, hat, hon⟩; have HT14 := hide (HT13.out.call hon hat); clear hat hon; refine Hd.out ?_))
              clear m0 m1 m2 f0 f1 f2 ml
              obtain ⟨m0, m1, m2, f0, f1, f2, ml⟩ := HT14.out.cells
              obtain ⟨z0, z1, z2, y0, y1, y2, zl⟩ := HT14.out.zcells
              have HFN := hide (HT14.out.fin (.int .i64 kd) (.int .i64 P.1) (.slice A n k2))
              refine hide ?_
              go_wp2_with fail
              refine bodyPost_ret (results_cell_row Tryz.results38 _ _ Z _ _ (0, 0) _ rfl HFN.out.1 Tryz.underlying35 rfl (by kernel_rfl)) rfl ?_
              rw [HE.out, HKE.out]
              exact ⟨A, n, k2, rfl, HFN.out.2.1.lower28 (by have := HT14.out.o2; have := HT14.out.o4; omega), HFN.out.2.2.1.moreS (fun b _ h => by rw [HS1.out] at h; exact h.1) HNS.out, HFN.out.2.2.2⟩
            | false =>
              rw [he] at HEN
              have HEE := hide he
              have hn200 : n ≤ 200 := by have h1 := left_ends he; rcases HNX0.out with h | h; exact h; omega
              clear he
              by_cases hn2 : n = 200
              · obtain ⟨s1, hs1⟩ : ∃ s1, failC 3 s4 = s1 := ⟨_, rfl⟩
                have hnb : ((n : Int) == 200) = true := by simp; omega
                have HS1Q := hide (show unlessC (decide (l.length < 200)) 3 s4 = s1 from by rw [HN.out, hn2]; exact hs1)
                have HNX := hide (show ∀ q, numC 0 199 s1 = q → (n + 1 ≤ 200 ∨ leftC q.2 = 0) from fun q hq => .inr (by have h1 := left_num 0 199 s1; have h2 := left_fail (x := 3) (by decide) s4; rw [hs1] at h2; rw [hq] at h1; omega))
                have HFL := hide (show Calls Tryz.prog 37 #[.pointer (some ⟨c, 0, none⟩), .int .i64 3] wr (DocP S1 c wr s1 (.tuple #[])) from hs1 ▸ dFail HT13.out.cur 3)
                clear hn2 hs1
                go_wp2_with (first | (go_at_call 89; (with_reducible refine HEN.out.mono ?_); rintro e w' ⟨rfl, rfl⟩) | (go_at_call 37; (with_reducible refine HFL.out.mono ?_); rintro e V6 ⟨rfl, hat, hon⟩; have HT14 := hide (HT13.out.call hon hat); clear hat hon))
                clear m0 m1 m2 f0 f1 f2 ml HFL HEN
                obtain ⟨q, hq⟩ : ∃ q, numC 0 199 s1 = q := ⟨_, rfl⟩
                have hgo2 : blockG (l, s4) = some (l ++ [q.1], q.2) := by
                  unfold blockG
                  rw [if_neg (by simp only; rw [HEE.out]; decide)]
                  simp only
                  rw [HS1Q.out, hq]
                have HGO := hide (show blocksC (l ++ [q.1], q.2) = BB from by rw [← HBQ.out, blocksC_go hgo2])
                have HDEC := hide (show leftC q.2 < leftC s4 from blockG_dec _ _ hgo2)
                have HQR := hide (show 0 ≤ q.1 ∧ q.1 ≤ 199 from hq ▸ numC_rng (lo := 0) (hi := 199) (by decide) (by decide) s1)
                have HQ := hide hq
                clear hgo2 hq
                obtain ⟨m0, m1, m2, f0, f1, f2, ml⟩ := HT14.out.cells
                have hcM : M ≠ c := by have := HT14.out.o1; have := HT14.out.o2; omega
                refine wp_region_cur c [3] [3, 4] 5 (by kernel_rfl) rfl (by kernel_rfl) (by kernel_rfl) ?_
                simp only [List.take_succ_cons, List.take_zero, List.drop_succ_cons, List.drop_zero]
                repeat (refine flowG_known (by kernel_rfl) (fun K hK => ?_); go_simp; (first | (refine hK _ ?_; clear hK K) | (apply Exists.intro; refine ⟨fun w' => ?_, hK _ ?_⟩; (fail); clear hK K)))
                refine flowG_knownF (by kernel_rfl) (fun K hK => ⟨.slice A n k2, fun W' hW' => ?_, hK _ ?_⟩)
                · have x0 : W'.cell? ⟨M, 2, none⟩ = some (.slice A n k2) := (World.cell?_of_block (hW'.block M ml hcM)).trans m2
                  have x1 : M < W'.heap.size := Nat.lt_of_lt_of_le ml hW'.size
                  go_simp
                clear hK K
                repeat (refine flowG_known (by kernel_rfl) (fun K hK => ?_); go_simp; (first | (refine hK _ ?_; clear hK K) | (apply Exists.intro; refine ⟨fun w' => ?_, hK _ ?_⟩; (fail); clear hK K)))
                refine flowG_keep [] (DocI S1 c q.2 q.1) (by kernel_rfl) (DocI.stable_ rfl) (by kernel_rfl) (fun u hF => ?_) ?_
                · try simp only [List.nil_append, List.cons_append, useH_f, useH_t, useH_nil]
                  go_simp
                  have hnum := dNum (HT14.out.cur.ext u) 0 199
                  rw [HQ.out] at hnum
                  refine hnum.mono ?_
                  rintro e w' ⟨rfl, hat, hon⟩
                  exact ⟨_, rfl, ⟨rfl, hat⟩, hF.trans hon, fun h => by cases h⟩
                refine flowG_keepF [true] (LitB V6.heap.size 3 [.int .i64 q.1] 1) (by kernel_rfl) (LitB.stable_ rfl) (fun W' hW' => ?_) ?_
                · try simp only [List.nil_append, List.cons_append, useH_f, useH_t, useH_nil]
                  rintro _ ⟨rfl, hat⟩
                  go_simp
                  exact ⟨⟨_, rfl, hW'.size, heap_alloc_new W' _⟩, hW'.alloc _, fun _ => ext_alloc W' _⟩
                refine flowG_done [true, true] (by kernel_rfl) (fun W' hW' => ?_)
                simp only [List.nil_append, List.cons_append, endH_f, endH_t, endH_nil]
                rintro _ ⟨rfl, hat⟩ _ ⟨g, rfl, hg, hrow⟩
                go_simp
                have HTW := hide (HT14.out.call hW' hat)
                have HRW := hide hrow
                clear hat hrow
                clear m0 m1 m2 f0 f1 f2 ml
                have hv9 : 0 ≤ q.1 ∧ q.1 ≤ 199 := HQR.out
                refine wpList_pushK W' rfl (.tmp 41) (.tmp 44) 33 rfl (M + 1) 3 i0 _ 8 Tryz.underlying33 HI0.out HZ.out HZ1.out HZ2.out rfl (.slice A n k2) l [q.1] rfl HTW.out.own ⟨g, 0, none⟩ 1 1 rfl rfl (by intro y hy; simp at hy; rw [hy]; unfold InI; omega) (fun j y hj => lit_news HRW.out j _ (by rw [List.getElem?_eq_some_iff] at hj ⊢; obtain ⟨h1, h2⟩ := hj; simp at h1; subst h1; simp at h2; exact ⟨by simp, by simp [h2]⟩)) (by have := HN.out; have := HLL.out; unfold maxLen; omega) (by have := HN.out; have := HLL.out; omega) (by have := HTW.out.ml; omega) ?_
                intro v' W2 ho1 ho2 hgr h5
                have HTG := hide (HTW.out.grown hgr ho2)
                obtain ⟨A', k', rfl⟩ := ho1.form
                have hl1 : (l ++ [q.1]).length = n + 1 := by rw [List.length_append, HN.out]; rfl
                rw [hl1] at ho1 ⊢
                have HO1 := hide ho1
                clear ho1 ho2 hgr h5 hv9
                obtain ⟨m0, m1, m2, f0, f1, f2, ml⟩ := HTG.out.cells
                obtain ⟨Y3, hY3⟩ : ∃ Y, W2.setCell ⟨M, 2, none⟩ (.slice A' (n + 1) k') = Y := ⟨_, rfl⟩
                have HTY := hide (show DTt w Y3 Z M c S1 kd P.1 (.slice A' (n + 1) k') (l ++ [q.1]) q.2 from by rw [← hY3]; exact HTG.out.set rfl HO1.out)
                go_wp2_with fail
                try rw [hY3]
                have HLY := hide HTY.out.cur.leftM_
                clear hY3
                go_roundw
                case rel => exact ⟨A', n + 1, k', l ++ [q.1], q.2, hl1, HTY.out, HGO.out, by have := HLL.out; have := HDEC.out; omega, HNX.out _ HQ.out⟩
                case measure => rw [HLY.out, HLE.out]; exact HDEC.out
              · obtain ⟨s1, hs1⟩ : ∃ s1, s4 = s1 := ⟨_, rfl⟩
                have hnb : ((n : Int) == 200) = false := by simp; omega
                have HS1Q := hide (show unlessC (decide (l.length < 200)) 3 s4 = s1 from by rw [HN.out, decide_eq_true (by omega)]; exact hs1)
                have HNX := hide (show ∀ q, numC 0 199 s1 = q → (n + 1 ≤ 200 ∨ leftC q.2 = 0) from fun q hq => .inl (by omega))
                have HT14 := hide (hs1 ▸ HT13.out)
                clear hn2 hs1
                go_wp2_with (first | (go_at_call 89; (with_reducible refine HEN.out.mono ?_); rintro e w' ⟨rfl, rfl⟩))
                clear m0 m1 m2 f0 f1 f2 ml HEN
                obtain ⟨V6, hV6⟩ : ∃ V, wr = V := ⟨_, rfl⟩
                rw [hV6] at HT14 ⊢
                obtain ⟨q, hq⟩ : ∃ q, numC 0 199 s1 = q := ⟨_, rfl⟩
                have hgo2 : blockG (l, s4) = some (l ++ [q.1], q.2) := by
                  unfold blockG
                  rw [if_neg (by simp only; rw [HEE.out]; decide)]
                  simp only
                  rw [HS1Q.out, hq]
                have HGO := hide (show blocksC (l ++ [q.1], q.2) = BB from by rw [← HBQ.out, blocksC_go hgo2])
                have HDEC := hide (show leftC q.2 < leftC s4 from blockG_dec _ _ hgo2)
                have HQR := hide (show 0 ≤ q.1 ∧ q.1 ≤ 199 from hq ▸ numC_rng (lo := 0) (hi := 199) (by decide) (by decide) s1)
                have HQ := hide hq
                clear hgo2 hq
                obtain ⟨m0, m1, m2, f0, f1, f2, ml⟩ := HT14.out.cells
                have hcM : M ≠ c := by have := HT14.out.o1; have := HT14.out.o2; omega
                refine wp_region_cur c [3] [3, 4] 5 (by kernel_rfl) rfl (by kernel_rfl) (by kernel_rfl) ?_
                simp only [List.take_succ_cons, List.take_zero, List.drop_succ_cons, List.drop_zero]
                repeat (refine flowG_known (by kernel_rfl) (fun K hK => ?_); go_simp; (first | (refine hK _ ?_; clear hK K) | (apply Exists.intro; refine ⟨fun w' => ?_, hK _ ?_⟩; (fail); clear hK K)))
                refine flowG_knownF (by kernel_rfl) (fun K hK => ⟨.slice A n k2, fun W' hW' => ?_, hK _ ?_⟩)
                · have x0 : W'.cell? ⟨M, 2, none⟩ = some (.slice A n k2) := (World.cell?_of_block (hW'.block M ml hcM)).trans m2
                  have x1 : M < W'.heap.size := Nat.lt_of_lt_of_le ml hW'.size
                  go_simp
                clear hK K
                repeat (refine flowG_known (by kernel_rfl) (fun K hK => ?_); go_simp; (first | (refine hK _ ?_; clear hK K) | (apply Exists.intro; refine ⟨fun w' => ?_, hK _ ?_⟩; (fail); clear hK K)))
                refine flowG_keep [] (DocI S1 c q.2 q.1) (by kernel_rfl) (DocI.stable_ rfl) (by kernel_rfl) (fun u hF => ?_) ?_
                · try simp only [List.nil_append, List.cons_append, useH_f, useH_t, useH_nil]
                  go_simp
                  have hnum := dNum (HT14.out.cur.ext u) 0 199
                  rw [HQ.out] at hnum
                  refine hnum.mono ?_
                  rintro e w' ⟨rfl, hat, hon⟩
                  exact ⟨_, rfl, ⟨rfl, hat⟩, hF.trans hon, fun h => by cases h⟩
                refine flowG_keepF [true] (LitB V6.heap.size 3 [.int .i64 q.1] 1) (by kernel_rfl) (LitB.stable_ rfl) (fun W' hW' => ?_) ?_
                · try simp only [List.nil_append, List.cons_append, useH_f, useH_t, useH_nil]
                  rintro _ ⟨rfl, hat⟩
                  go_simp
                  exact ⟨⟨_, rfl, hW'.size, heap_alloc_new W' _⟩, hW'.alloc _, fun _ => ext_alloc W' _⟩
                refine flowG_done [true, true] (by kernel_rfl) (fun W' hW' => ?_)
                simp only [List.nil_append, List.cons_append, endH_f, endH_t, endH_nil]
                rintro _ ⟨rfl, hat⟩ _ ⟨g, rfl, hg, hrow⟩
                go_simp
                have HTW := hide (HT14.out.call hW' hat)
                have HRW := hide hrow
                clear hat hrow
                clear m0 m1 m2 f0 f1 f2 ml
                have hv9 : 0 ≤ q.1 ∧ q.1 ≤ 199 := HQR.out
                refine wpList_pushK W' rfl (.tmp 41) (.tmp 44) 33 rfl (M + 1) 3 i0 _ 8 Tryz.underlying33 HI0.out HZ.out HZ1.out HZ2.out rfl (.slice A n k2) l [q.1] rfl HTW.out.own ⟨g, 0, none⟩ 1 1 rfl rfl (by intro y hy; simp at hy; rw [hy]; unfold InI; omega) (fun j y hj => lit_news HRW.out j _ (by rw [List.getElem?_eq_some_iff] at hj ⊢; obtain ⟨h1, h2⟩ := hj; simp at h1; subst h1; simp at h2; exact ⟨by simp, by simp [h2]⟩)) (by have := HN.out; have := HLL.out; unfold maxLen; omega) (by have := HN.out; have := HLL.out; omega) (by have := HTW.out.ml; omega) ?_
                intro v' W2 ho1 ho2 hgr h5
                have HTG := hide (HTW.out.grown hgr ho2)
                obtain ⟨A', k', rfl⟩ := ho1.form
                have hl1 : (l ++ [q.1]).length = n + 1 := by rw [List.length_append, HN.out]; rfl
                rw [hl1] at ho1 ⊢
                have HO1 := hide ho1
                clear ho1 ho2 hgr h5 hv9
                obtain ⟨m0, m1, m2, f0, f1, f2, ml⟩ := HTG.out.cells
                obtain ⟨Y3, hY3⟩ : ∃ Y, W2.setCell ⟨M, 2, none⟩ (.slice A' (n + 1) k') = Y := ⟨_, rfl⟩
                have HTY := hide (show DTt w Y3 Z M c S1 kd P.1 (.slice A' (n + 1) k') (l ++ [q.1]) q.2 from by rw [← hY3]; exact HTG.out.set rfl HO1.out)
                go_wp2_with fail
                try rw [hY3]
                have HLY := hide HTY.out.cur.leftM_
                clear hY3
                go_roundw
                case rel => exact ⟨A', n + 1, k', l ++ [q.1], q.2, hl1, HTY.out, HGO.out, by have := HLL.out; have := HDEC.out; omega, HNX.out _ HQ.out⟩
                case measure => rw [HLY.out, HLE.out]; exact HDEC.out
        · have c1 : decide ((k : Int) ≤ 4) = false := by simp; omega
          go_wp2_with (first | (go_at_call 87; refine Hd.out ?_))
          refine hide ?_
          (with_reducible refine (HNM.out _ HT9.out.cur).mono ?_)
          rintro e V10 ⟨rfl, hat, hon⟩
          have HT10 := hide (HT9.out.call hon hat)
          clear hat hon m0 m1 m2 f0 f1 f2 ml
          obtain ⟨m0, m1, m2, f0, f1, f2, ml⟩ := HT10.out.cells
          obtain ⟨Y2, hY2⟩ : ∃ Y, V10.setCell ⟨M, 1, none⟩ (.int .i64 P.1) = Y := ⟨_, rfl⟩
          have HT11 := hide (show DTt w Y2 Z M c S1 kd P.1 (.slice none 0 0) [] P.2 from by rw [← hY2]; exact HT10.out.set rfl HT10.out.own)
          have HMK := hide (show Calls Tryz.prog 88 #[.pointer (some ⟨c, 0, none⟩), .slice (some ⟨Y2.heap.size, 0, none⟩) 1 1] (Y2.alloc (.cells #[.string ⟨#[58]⟩] 9)) (DocP S1 c (Y2.alloc (.cells #[.string ⟨#[58]⟩] 9)) s3 (.tuple #[])) from by
            have h := dMark (HT11.out.alloc (.cells #[.string ⟨#[58]⟩] 9)).cur (ts := [tColon]) (Sl.lit (S := fun _ => False) (S' := fun b => c < b) (us := [.string ⟨#[58]⟩]) rfl ⟨[.string ⟨#[58]⟩], [], rfl, ⟨rfl, by unfold maxLen; decide⟩, rfl⟩ rfl (by decide) (fun _ h => h.elim) (by have := HT11.out.o1; have := HT11.out.zl; omega)) (by show ¬ c < c; omega)
            rw [HS3.out] at h
            exact h)
          go_wp2_with (first | (go_at_call 88; (with_reducible refine HMK.out.mono ?_); rintro e V5 ⟨rfl, hat, hon⟩; have HT12 := hide ((HT11.out.alloc (.cells #[.string ⟨#[58]⟩] 9)).call hon hat); clear hat hon))
          clear hY2 HMK HT10 HT11 HT9 m0 m1 m2 f0 f1 f2 ml
          go_loopw [] (fun wr => ∃ (A : Option Addr) (n k : Nat) (l : List Int) (s' : Cur), l.length = n ∧ DTt w wr Z M c S1 kd P.1 (.slice A n k) l s' ∧ blocksC (l, s') = BB ∧ n + leftC s' ≤ 1099511627776 ∧ (n ≤ 200 ∨ leftC s' = 0)) (fun wr => leftM c wr)
          case atStart => exact ⟨none, 0, 0, [], s3, rfl, HT12.out, HBB.out, by have := HL3.out; simpa using this, .inl (by omega)⟩
          case round =>
            obtain ⟨A, n, k2, l, s4, hn, ht, hbb, hll, hnx⟩ := hrel
            have HT13 := hide ht; have HBQ := hide hbb; have HN := hide hn; have HLL := hide hll; have HNX0 := hide hnx
            have HEN := hide (dEnds ht.cur)
            have HLE := hide ht.cur.leftM_
            clear ht hbb hn hll hnx HT12
            obtain ⟨m0, m1, m2, f0, f1, f2, ml⟩ := HT13.out.cells
            cases he : endsC s4 with
            | true =>
              rw [he] at HEN
              have HE := hide (show BB = (l, s4) from by rw [← HBQ.out, blocksC_stop (show blockG (l, s4) = none from if_pos he)])
              clear he
              have HED := hide (dEnd HT13.out.cur)
              go_wp2_with (first | (go_at_call 89; (with_reducible refine HEN.out.mono ?_); rintro e w' ⟨rfl, rfl⟩) | (go_at_call 90; (with_reducible refine HED.out.mono ?_); rintro e V6 ⟨rfl, hat, hon⟩; have HT14 := hide (HT13.out.call hon hat); clear hat hon; refine Hd.out ?_))
              clear m0 m1 m2 f0 f1 f2 ml
              obtain ⟨m0, m1, m2, f0, f1, f2, ml⟩ := HT14.out.cells
              obtain ⟨z0, z1, z2, y0, y1, y2, zl⟩ := HT14.out.zcells
              have HFN := hide (HT14.out.fin (.int .i64 kd) (.int .i64 P.1) (.slice A n k2))
              refine hide ?_
              go_wp2_with fail
              refine bodyPost_ret (results_cell_row Tryz.results38 _ _ Z _ _ (0, 0) _ rfl HFN.out.1 Tryz.underlying35 rfl (by kernel_rfl)) rfl ?_
              rw [HE.out, HKE.out]
              exact ⟨A, n, k2, rfl, HFN.out.2.1.lower28 (by have := HT14.out.o2; have := HT14.out.o4; omega), HFN.out.2.2.1.moreS (fun b _ h => by rw [HS1.out] at h; exact h.1) HNS.out, HFN.out.2.2.2⟩
            | false =>
              rw [he] at HEN
              have HEE := hide he
              have hn200 : n ≤ 200 := by have h1 := left_ends he; rcases HNX0.out with h | h; exact h; omega
              clear he
              by_cases hn2 : n = 200
              · obtain ⟨s1, hs1⟩ : ∃ s1, failC 3 s4 = s1 := ⟨_, rfl⟩
                have hnb : ((n : Int) == 200) = true := by simp; omega
                have HS1Q := hide (show unlessC (decide (l.length < 200)) 3 s4 = s1 from by rw [HN.out, hn2]; exact hs1)
                have HNX := hide (show ∀ q, numC 0 199 s1 = q → (n + 1 ≤ 200 ∨ leftC q.2 = 0) from fun q hq => .inr (by have h1 := left_num 0 199 s1; have h2 := left_fail (x := 3) (by decide) s4; rw [hs1] at h2; rw [hq] at h1; omega))
                have HFL := hide (show Calls Tryz.prog 37 #[.pointer (some ⟨c, 0, none⟩), .int .i64 3] wr (DocP S1 c wr s1 (.tuple #[])) from hs1 ▸ dFail HT13.out.cur 3)
                clear hn2 hs1
                go_wp2_with (first | (go_at_call 89; (with_reducible refine HEN.out.mono ?_); rintro e w' ⟨rfl, rfl⟩) | (go_at_call 37; (with_reducible refine HFL.out.mono ?_); rintro e V6 ⟨rfl, hat, hon⟩; have HT14 := hide (HT13.out.call hon hat); clear hat hon))
                clear m0 m1 m2 f0 f1 f2 ml HFL HEN
                obtain ⟨q, hq⟩ : ∃ q, numC 0 199 s1 = q := ⟨_, rfl⟩
                have hgo2 : blockG (l, s4) = some (l ++ [q.1], q.2) := by
                  unfold blockG
                  rw [if_neg (by simp only; rw [HEE.out]; decide)]
                  simp only
                  rw [HS1Q.out, hq]
                have HGO := hide (show blocksC (l ++ [q.1], q.2) = BB from by rw [← HBQ.out, blocksC_go hgo2])
                have HDEC := hide (show leftC q.2 < leftC s4 from blockG_dec _ _ hgo2)
                have HQR := hide (show 0 ≤ q.1 ∧ q.1 ≤ 199 from hq ▸ numC_rng (lo := 0) (hi := 199) (by decide) (by decide) s1)
                have HQ := hide hq
                clear hgo2 hq
                obtain ⟨m0, m1, m2, f0, f1, f2, ml⟩ := HT14.out.cells
                have hcM : M ≠ c := by have := HT14.out.o1; have := HT14.out.o2; omega
                refine wp_region_cur c [3] [3, 4] 5 (by kernel_rfl) rfl (by kernel_rfl) (by kernel_rfl) ?_
                simp only [List.take_succ_cons, List.take_zero, List.drop_succ_cons, List.drop_zero]
                repeat (refine flowG_known (by kernel_rfl) (fun K hK => ?_); go_simp; (first | (refine hK _ ?_; clear hK K) | (apply Exists.intro; refine ⟨fun w' => ?_, hK _ ?_⟩; (fail); clear hK K)))
                refine flowG_knownF (by kernel_rfl) (fun K hK => ⟨.slice A n k2, fun W' hW' => ?_, hK _ ?_⟩)
                · have x0 : W'.cell? ⟨M, 2, none⟩ = some (.slice A n k2) := (World.cell?_of_block (hW'.block M ml hcM)).trans m2
                  have x1 : M < W'.heap.size := Nat.lt_of_lt_of_le ml hW'.size
                  go_simp
                clear hK K
                repeat (refine flowG_known (by kernel_rfl) (fun K hK => ?_); go_simp; (first | (refine hK _ ?_; clear hK K) | (apply Exists.intro; refine ⟨fun w' => ?_, hK _ ?_⟩; (fail); clear hK K)))
                refine flowG_keep [] (DocI S1 c q.2 q.1) (by kernel_rfl) (DocI.stable_ rfl) (by kernel_rfl) (fun u hF => ?_) ?_
                · try simp only [List.nil_append, List.cons_append, useH_f, useH_t, useH_nil]
                  go_simp
                  have hnum := dNum (HT14.out.cur.ext u) 0 199
                  rw [HQ.out] at hnum
                  refine hnum.mono ?_
                  rintro e w' ⟨rfl, hat, hon⟩
                  exact ⟨_, rfl, ⟨rfl, hat⟩, hF.trans hon, fun h => by cases h⟩
                refine flowG_keepF [true] (LitB V6.heap.size 3 [.int .i64 q.1] 1) (by kernel_rfl) (LitB.stable_ rfl) (fun W' hW' => ?_) ?_
                · try simp only [List.nil_append, List.cons_append, useH_f, useH_t, useH_nil]
                  rintro _ ⟨rfl, hat⟩
                  go_simp
                  exact ⟨⟨_, rfl, hW'.size, heap_alloc_new W' _⟩, hW'.alloc _, fun _ => ext_alloc W' _⟩
                refine flowG_done [true, true] (by kernel_rfl) (fun W' hW' => ?_)
                simp only [List.nil_append, List.cons_append, endH_f, endH_t, endH_nil]
                rintro _ ⟨rfl, hat⟩ _ ⟨g, rfl, hg, hrow⟩
                go_simp
                have HTW := hide (HT14.out.call hW' hat)
                have HRW := hide hrow
                clear hat hrow
                clear m0 m1 m2 f0 f1 f2 ml
                have hv9 : 0 ≤ q.1 ∧ q.1 ≤ 199 := HQR.out
                refine wpList_pushK W' rfl (.tmp 41) (.tmp 44) 33 rfl (M + 1) 3 i0 _ 8 Tryz.underlying33 HI0.out HZ.out HZ1.out HZ2.out rfl (.slice A n k2) l [q.1] rfl HTW.out.own ⟨g, 0, none⟩ 1 1 rfl rfl (by intro y hy; simp at hy; rw [hy]; unfold InI; omega) (fun j y hj => lit_news HRW.out j _ (by rw [List.getElem?_eq_some_iff] at hj ⊢; obtain ⟨h1, h2⟩ := hj; simp at h1; subst h1; simp at h2; exact ⟨by simp, by simp [h2]⟩)) (by have := HN.out; have := HLL.out; unfold maxLen; omega) (by have := HN.out; have := HLL.out; omega) (by have := HTW.out.ml; omega) ?_
                intro v' W2 ho1 ho2 hgr h5
                have HTG := hide (HTW.out.grown hgr ho2)
                obtain ⟨A', k', rfl⟩ := ho1.form
                have hl1 : (l ++ [q.1]).length = n + 1 := by rw [List.length_append, HN.out]; rfl
                rw [hl1] at ho1 ⊢
                have HO1 := hide ho1
                clear ho1 ho2 hgr h5 hv9
                obtain ⟨m0, m1, m2, f0, f1, f2, ml⟩ := HTG.out.cells
                obtain ⟨Y3, hY3⟩ : ∃ Y, W2.setCell ⟨M, 2, none⟩ (.slice A' (n + 1) k') = Y := ⟨_, rfl⟩
                have HTY := hide (show DTt w Y3 Z M c S1 kd P.1 (.slice A' (n + 1) k') (l ++ [q.1]) q.2 from by rw [← hY3]; exact HTG.out.set rfl HO1.out)
                go_wp2_with fail
                try rw [hY3]
                have HLY := hide HTY.out.cur.leftM_
                clear hY3
                go_roundw
                case rel => exact ⟨A', n + 1, k', l ++ [q.1], q.2, hl1, HTY.out, HGO.out, by have := HLL.out; have := HDEC.out; omega, HNX.out _ HQ.out⟩
                case measure => rw [HLY.out, HLE.out]; exact HDEC.out
              · obtain ⟨s1, hs1⟩ : ∃ s1, s4 = s1 := ⟨_, rfl⟩
                have hnb : ((n : Int) == 200) = false := by simp; omega
                have HS1Q := hide (show unlessC (decide (l.length < 200)) 3 s4 = s1 from by rw [HN.out, decide_eq_true (by omega)]; exact hs1)
                have HNX := hide (show ∀ q, numC 0 199 s1 = q → (n + 1 ≤ 200 ∨ leftC q.2 = 0) from fun q hq => .inl (by omega))
                have HT14 := hide (hs1 ▸ HT13.out)
                clear hn2 hs1
                go_wp2_with (first | (go_at_call 89; (with_reducible refine HEN.out.mono ?_); rintro e w' ⟨rfl, rfl⟩))
                clear m0 m1 m2 f0 f1 f2 ml HEN
                obtain ⟨V6, hV6⟩ : ∃ V, wr = V := ⟨_, rfl⟩
                rw [hV6] at HT14 ⊢
                obtain ⟨q, hq⟩ : ∃ q, numC 0 199 s1 = q := ⟨_, rfl⟩
                have hgo2 : blockG (l, s4) = some (l ++ [q.1], q.2) := by
                  unfold blockG
                  rw [if_neg (by simp only; rw [HEE.out]; decide)]
                  simp only
                  rw [HS1Q.out, hq]
                have HGO := hide (show blocksC (l ++ [q.1], q.2) = BB from by rw [← HBQ.out, blocksC_go hgo2])
                have HDEC := hide (show leftC q.2 < leftC s4 from blockG_dec _ _ hgo2)
                have HQR := hide (show 0 ≤ q.1 ∧ q.1 ≤ 199 from hq ▸ numC_rng (lo := 0) (hi := 199) (by decide) (by decide) s1)
                have HQ := hide hq
                clear hgo2 hq
                obtain ⟨m0, m1, m2, f0, f1, f2, ml⟩ := HT14.out.cells
                have hcM : M ≠ c := by have := HT14.out.o1; have := HT14.out.o2; omega
                refine wp_region_cur c [3] [3, 4] 5 (by kernel_rfl) rfl (by kernel_rfl) (by kernel_rfl) ?_
                simp only [List.take_succ_cons, List.take_zero, List.drop_succ_cons, List.drop_zero]
                repeat (refine flowG_known (by kernel_rfl) (fun K hK => ?_); go_simp; (first | (refine hK _ ?_; clear hK K) | (apply Exists.intro; refine ⟨fun w' => ?_, hK _ ?_⟩; (fail); clear hK K)))
                refine flowG_knownF (by kernel_rfl) (fun K hK => ⟨.slice A n k2, fun W' hW' => ?_, hK _ ?_⟩)
                · have x0 : W'.cell? ⟨M, 2, none⟩ = some (.slice A n k2) := (World.cell?_of_block (hW'.block M ml hcM)).trans m2
                  have x1 : M < W'.heap.size := Nat.lt_of_lt_of_le ml hW'.size
                  go_simp
                clear hK K
                repeat (refine flowG_known (by kernel_rfl) (fun K hK => ?_); go_simp; (first | (refine hK _ ?_; clear hK K) | (apply Exists.intro; refine ⟨fun w' => ?_, hK _ ?_⟩; (fail); clear hK K)))
                refine flowG_keep [] (DocI S1 c q.2 q.1) (by kernel_rfl) (DocI.stable_ rfl) (by kernel_rfl) (fun u hF => ?_) ?_
                · try simp only [List.nil_append, List.cons_append, useH_f, useH_t, useH_nil]
                  go_simp
                  have hnum := dNum (HT14.out.cur.ext u) 0 199
                  rw [HQ.out] at hnum
                  refine hnum.mono ?_
                  rintro e w' ⟨rfl, hat, hon⟩
                  exact ⟨_, rfl, ⟨rfl, hat⟩, hF.trans hon, fun h => by cases h⟩
                refine flowG_keepF [true] (LitB V6.heap.size 3 [.int .i64 q.1] 1) (by kernel_rfl) (LitB.stable_ rfl) (fun W' hW' => ?_) ?_
                · try simp only [List.nil_append, List.cons_append, useH_f, useH_t, useH_nil]
                  rintro _ ⟨rfl, hat⟩
                  go_simp
                  exact ⟨⟨_, rfl, hW'.size, heap_alloc_new W' _⟩, hW'.alloc _, fun _ => ext_alloc W' _⟩
                refine flowG_done [true, true] (by kernel_rfl) (fun W' hW' => ?_)
                simp only [List.nil_append, List.cons_append, endH_f, endH_t, endH_nil]
                rintro _ ⟨rfl, hat⟩ _ ⟨g, rfl, hg, hrow⟩
                go_simp
                have HTW := hide (HT14.out.call hW' hat)
                have HRW := hide hrow
                clear hat hrow
                clear m0 m1 m2 f0 f1 f2 ml
                have hv9 : 0 ≤ q.1 ∧ q.1 ≤ 199 := HQR.out
                refine wpList_pushK W' rfl (.tmp 41) (.tmp 44) 33 rfl (M + 1) 3 i0 _ 8 Tryz.underlying33 HI0.out HZ.out HZ1.out HZ2.out rfl (.slice A n k2) l [q.1] rfl HTW.out.own ⟨g, 0, none⟩ 1 1 rfl rfl (by intro y hy; simp at hy; rw [hy]; unfold InI; omega) (fun j y hj => lit_news HRW.out j _ (by rw [List.getElem?_eq_some_iff] at hj ⊢; obtain ⟨h1, h2⟩ := hj; simp at h1; subst h1; simp at h2; exact ⟨by simp, by simp [h2]⟩)) (by have := HN.out; have := HLL.out; unfold maxLen; omega) (by have := HN.out; have := HLL.out; omega) (by have := HTW.out.ml; omega) ?_
                intro v' W2 ho1 ho2 hgr h5
                have HTG := hide (HTW.out.grown hgr ho2)
                obtain ⟨A', k', rfl⟩ := ho1.form
                have hl1 : (l ++ [q.1]).length = n + 1 := by rw [List.length_append, HN.out]; rfl
                rw [hl1] at ho1 ⊢
                have HO1 := hide ho1
                clear ho1 ho2 hgr h5 hv9
                obtain ⟨m0, m1, m2, f0, f1, f2, ml⟩ := HTG.out.cells
                obtain ⟨Y3, hY3⟩ : ∃ Y, W2.setCell ⟨M, 2, none⟩ (.slice A' (n + 1) k') = Y := ⟨_, rfl⟩
                have HTY := hide (show DTt w Y3 Z M c S1 kd P.1 (.slice A' (n + 1) k') (l ++ [q.1]) q.2 from by rw [← hY3]; exact HTG.out.set rfl HO1.out)
                go_wp2_with fail
                try rw [hY3]
                have HLY := hide HTY.out.cur.leftM_
                clear hY3
                go_roundw
                case rel => exact ⟨A', n + 1, k', l ++ [q.1], q.2, hl1, HTY.out, HGO.out, by have := HLL.out; have := HDEC.out; omega, HNX.out _ HQ.out⟩
                case measure => rw [HLY.out, HLE.out]; exact HDEC.out
end Go.Proofs.YtppkanniefignaaGreatDoor
