/- law28: walks: the document reads a tile. law28: walks: the document's order; it reads an edge's facts. law28: what stands while the document reads a certificate. -/
import Derived.Test.YtppkanniefignaaGreatDoorG16
import Derived.Test.YtppkanniefignaaGreatDoorG40
import Derived.Test.YtppkanniefignaaGreatDoorG33
import Derived.Test.YtppkanniefignaaGreatDoorG31
import Derived.Deep.DeepCutAuto
import Derived.Test.YtppkanniefignaaGreatDoorG19
set_option linter.unusedSimpArgs false
set_option linter.unusedVariables false
namespace Go.Proofs.YtppkanniefignaaGreatDoor
open Go.RowKit
def DocI (S : Nat → Prop) (c : Nat) (s : Cur) (p : Int) : Post := fun v w => v = .int .i64 p ∧ DocAt w S c s
theorem DocI.stable_ {F : World → Prop} {S : Nat → Prop} {c : Nat} {s : Cur} {p : Int} {mem : Bool} (hm : mem = true) : stable F mem (DocI S c s p) :=
 stable_mem hm fun _ w u ⟨hv, h⟩ => ⟨hv, h.ext u⟩
theorem DocAt.alloc {w : World} {S : Nat → Prop} {c : Nat} {s : Cur} (h : DocAt w S c s) (o : Obj) : DocAt (w.alloc o) S c s := h.below ((Below.refl _ _).alloc (Nat.le_refl _) o)
theorem DocAt.leftM_ {w : World} {S : Nat → Prop} {c : Nat} {s : Cur} (h : DocAt w S c s) : leftM c w = leftC s := by
 obtain ⟨A, n, k, k0, k1, _, _, hs⟩ := h.at_
 unfold leftM leftC
 rw [k0, k1]
 have := hs.len
 rw [this]
structure DTt (w0 W : World) (Z M c : Nat) (S : Nat → Prop) (kd pr : Int) (v : Value) (l : List Int) (s : Cur) : Prop where
 zro : W.heap[Z]? = some (.cells #[.int .i64 0, .int .i64 0, .slice none 0 0] 35 (0, 0))
 row : W.heap[M]? = some (.cells #[.int .i64 kd, .int .i64 pr, v] 35 (0, 0))
 cur : DocAt W S c s
 own : OwnL W (M + 1) 3 (fun _ => False) v l
 only : Only c w0 W
 o1 : c < Z
 o2 : Z < M
 o3 : ∀ b, S b → b < Z
 o4 : w0.heap.size ≤ Z
section
variable {w0 W W' : World} {Z M c : Nat} {S : Nat → Prop} {kd pr : Int} {v v' : Value} {l l' : List Int} {s s' : Cur}
theorem DTt.zl (h : DTt w0 W Z M c S kd pr v l s) : Z < W.heap.size := (Array.getElem?_eq_some_iff.1 h.zro).1
theorem DTt.ml (h : DTt w0 W Z M c S kd pr v l s) : M < W.heap.size := (Array.getElem?_eq_some_iff.1 h.row).1
theorem DTt.call (h : DTt w0 W Z M c S kd pr v l s) (hon : Only c W W') (hat : DocAt W' S c s') : DTt w0 W' Z M c S kd pr v l s' where
 zro := (hon.block Z h.zl (by have := h.o1; omega)).trans h.zro
 row := (hon.block M h.ml (by have := h.o1; have := h.o2; omega)).trans h.row
 cur := hat
 own := h.own.keep hon.size (fun _ hf => hf.elim) fun g hg => hon.block g (h.own.below_ g hg).2 (by have := (h.own.below_ g hg).1; have := h.o1; have := h.o2; omega)
 only := h.only.trans hon
 o1 := h.o1
 o2 := h.o2
 o3 := h.o3
 o4 := h.o4
theorem DTt.ext (h : DTt w0 W Z M c S kd pr v l s) (u : Ext) : DTt w0 (W.ext u) Z M c S kd pr v l s := h.call ((Only.refl c W).ext u) (h.cur.ext u)
theorem DTt.alloc (h : DTt w0 W Z M c S kd pr v l s) (o : Obj) : DTt w0 (W.alloc o) Z M c S kd pr v l s := h.call ((Only.refl c W).alloc o) (h.cur.alloc o)
theorem DTt.set (h : DTt w0 W Z M c S kd pr v l s) {j : Nat} {x : Value} {kd' pr' : Int} (hr : (#[.int .i64 kd, .int .i64 pr, v] : Array Value).setIfInBounds j x = #[.int .i64 kd', .int .i64 pr', v']) (hv : OwnL W (M + 1) 3 (fun _ => False) v' l') : DTt w0 (W.setCell ⟨M, j, none⟩ x) Z M c S kd' pr' v' l' s where
 zro := (Below.heap_setCell W ⟨M, j, none⟩ x Z (by show Z ≠ M; have := h.o2; omega)).trans h.zro
 row := by rw [row_setB h.row, hr]
 cur := h.cur.keep (by simp) (Below.heap_setCell W ⟨M, j, none⟩ x c (by show c ≠ M; have := h.o1; have := h.o2; omega)) fun b hS _ => Below.heap_setCell W ⟨M, j, none⟩ x b (by show b ≠ M; have := h.o3 b hS; have := h.o2; omega)
 own := hv.setCell (fun e => e) (fun e => by have h5 : M + 1 ≤ M := (hv.below_ _ e).1; omega) x
 only := ⟨h.only.os, h.only.tape, h.only.output, by have := h.only.size; simpa using this, fun b hb hc => (Below.heap_setCell W ⟨M, j, none⟩ x b (by show b ≠ M; have := h.o2; have := h.o4; omega)).trans (h.only.block b hb hc)⟩
 o1 := h.o1
 o2 := h.o2
 o3 := h.o3
 o4 := h.o4
theorem DTt.grown (h : DTt w0 W Z M c S kd pr v l s) (hg : W.grownBy W' v.ownBlock) (ho : OwnL W' (M + 1) 3 (fun _ => False) v l) : DTt w0 W' Z M c S kd pr v l s := by
 have hr : ∀ b, b ≤ M → some b ≠ v.ownBlock := fun b hb e => by have := (h.own.below_ b e.symm).1; omega
 have hk : ∀ b, b < W.heap.size → b ≤ M → W'.heap[b]? = W.heap[b]? := fun b hb hm => hg.block b hb (hr b hm)
 have o1 := h.o1; have o2 := h.o2; have o4 := h.o4; have rl := h.zl; have ml := h.ml
 have hb0 : Below (M + 1) W W' := (Below.refl _ _).grown hg (by omega) (fun r e => (h.own.below_ r e).1)
 exact ⟨(hk Z rl (by omega)).trans h.zro, (hk M ml (by omega)).trans h.row, h.cur.keep hg.size (hk c (by omega) (by omega)) (fun b hS hb => hk b hb (by have := h.o3 b hS; omega)), ho, ⟨hb0.os.trans h.only.os, hb0.tape.trans h.only.tape, hb0.output.trans h.only.output, Nat.le_trans h.only.size hg.size, fun b hb hc => (hk b (by have := h.only.size; omega) (by omega)).trans (h.only.block b hb hc)⟩, o1, o2, h.o3, o4⟩
theorem DTt.cells (h : DTt w0 W Z M c S kd pr v l s) : W.cell? ⟨M, 0, none⟩ = some (.int .i64 kd) ∧ W.cell? ⟨M, 1, none⟩ = some (.int .i64 pr) ∧ W.cell? ⟨M, 2, none⟩ = some v ∧ W.frozen? ⟨M, 0, none⟩ = false ∧ W.frozen? ⟨M, 1, none⟩ = false ∧ W.frozen? ⟨M, 2, none⟩ = false ∧ M < W.heap.size := by
 obtain ⟨a, b, d⟩ := cells3 h.row
 exact ⟨a, b, d, by simp [World.frozen?, h.row], by simp [World.frozen?, h.row], by simp [World.frozen?, h.row], h.ml⟩
theorem DTt.fin (h : DTt w0 W Z M c S kd pr v l s) (a b d : Value) : (((W.setCell ⟨Z, 0, none⟩ a).setCell ⟨Z, 1, none⟩ b).setCell ⟨Z, 2, none⟩ d).heap[Z]? = some (.cells #[a, b, d] 35 (0, 0)) ∧ OwnL (((W.setCell ⟨Z, 0, none⟩ a).setCell ⟨Z, 1, none⟩ b).setCell ⟨Z, 2, none⟩ d) (M + 1) 3 (fun _ => False) v l ∧ DocAt (((W.setCell ⟨Z, 0, none⟩ a).setCell ⟨Z, 1, none⟩ b).setCell ⟨Z, 2, none⟩ d) S c s ∧ Only c w0 (((W.setCell ⟨Z, 0, none⟩ a).setCell ⟨Z, 1, none⟩ b).setCell ⟨Z, 2, none⟩ d) := by
 have o1 := h.o1; have o2 := h.o2; have o4 := h.o4
 have hb : ∀ k, k ≠ Z → (((W.setCell ⟨Z, 0, none⟩ a).setCell ⟨Z, 1, none⟩ b).setCell ⟨Z, 2, none⟩ d).heap[k]? = W.heap[k]? := fun k hk =>
  (Below.heap_setCell _ ⟨Z, 2, none⟩ d k hk).trans ((Below.heap_setCell _ ⟨Z, 1, none⟩ b k hk).trans (Below.heap_setCell _ ⟨Z, 0, none⟩ a k hk))
 refine ⟨?_, ?_, ?_, ?_⟩
 ·rw [row_setB (row_setB (row_setB h.zro 0 a) 1 b) 2 d]; rfl
 ·exact h.own.keep (by simp) (fun _ hf => hf.elim) fun g hg => hb g (by have := (h.own.below_ g hg).1; omega)
 ·exact h.cur.keep (by simp) (hb c (by omega)) fun k hS _ => hb k (by have := h.o3 k hS; omega)
 ·exact ⟨h.only.os, h.only.tape, h.only.output, by have := h.only.size; simpa using this, fun k hk hc => (hb k (by omega)).trans (h.only.block k hk hc)⟩
theorem DTt.zcells (h : DTt w0 W Z M c S kd pr v l s) : W.cell? ⟨Z, 0, none⟩ = some (.int .i64 0) ∧ W.cell? ⟨Z, 1, none⟩ = some (.int .i64 0) ∧ W.cell? ⟨Z, 2, none⟩ = some (.slice none 0 0) ∧ W.frozen? ⟨Z, 0, none⟩ = false ∧ W.frozen? ⟨Z, 1, none⟩ = false ∧ W.frozen? ⟨Z, 2, none⟩ = false ∧ Z < W.heap.size := by
 obtain ⟨a, b, d⟩ := cells3 h.zro
 exact ⟨a, b, d, by simp [World.frozen?, h.zro], by simp [World.frozen?, h.zro], by simp [World.frozen?, h.zro], h.zl⟩
end
theorem kindsB_drop (k : Nat) (hk1 : 1 ≤ k) (hk4 : k ≤ 4) : kindsB.drop (k - 1) = kindT k :: kindsB.drop k := by
 rcases (by omega : k = 1 ∨ k = 2 ∨ k = 3 ∨ k = 4) with rfl | rfl | rfl | rfl <;> rfl
def TilePd (S : Nat → Prop) (c : Nat) (r : Tile × Cur) (w : World) (e : Ending) (w' : World) : Prop :=
 ∃ A n k, e = .returned (.agg #[.int .i64 r.1.kind, .int .i64 r.1.parent, .slice A n k]) ∧ OwnL w' w.heap.size 3 (fun _ => False) (.slice A n k) r.1.blocks ∧ DocAt w' S c r.2 ∧ Only c w w'
set_option maxRecDepth 100000 in
set_option maxHeartbeats 16000000 in
theorem dtile28_any (w : World) (S : Nat → Prop) (c : Nat) (s : Cur) (h : DocAt w S c s) (hl : leftC s ≤ 1099511627776) : Calls Tryz.prog 38 #[.pointer (some ⟨c, 0, none⟩)] w (TilePd S c (tileC s) w) := by
 obtain ⟨i0, hi, hz, hz1, hz2⟩ := info_parts info_int
 have HI0 := hide hi; have HZ := hide hz; have HZ1 := hide hz1; have HZ2 := hide hz2
 clear hi hz hz1 hz2
 have hlt := h.lt
 obtain ⟨Z, hR⟩ : ∃ R, w.heap.size = R := ⟨_, rfl⟩
 obtain ⟨M, hM⟩ : ∃ M, Z + 1 = M := ⟨_, rfl⟩
 obtain ⟨S1, hS1⟩ : ∃ S1 : Nat → Prop, S1 = fun b => S b ∧ b < Z := ⟨_, rfl⟩
 have HS1 := hide hS1; have HNS := hide h.nS
 have hat0 : DocAt w S1 c s := h.moreS (fun b hb hS => by rw [hS1]; exact ⟨hS, by omega⟩) (by rw [hS1]; exact fun e => h.nS e.1)
 obtain ⟨W1, hW1⟩ : ∃ W1, (w.alloc (.cells #[.int .i64 0, .int .i64 0, .slice none 0 0] 35)).alloc (.cells #[.int .i64 0, .int .i64 0, .slice none 0 0] 35) = W1 := ⟨_, rfl⟩
 have HT1 := hide (show DTt w W1 Z M c S1 0 0 (.slice none 0 0) [] s from by
  refine ⟨?_, ?_, ?_, OwnL.nil_ _ _ _ _, ?_, by omega, by omega, fun b hb => by rw [hS1] at hb; exact hb.2, by omega⟩
  ·rw [← hW1, Below.heap_alloc _ _ _ (by simp; omega), ← hR]; exact heap_alloc_new w _
  ·have h := heap_alloc_new (w.alloc (.cells #[.int .i64 0, .int .i64 0, .slice none 0 0] 35)) (.cells #[.int .i64 0, .int .i64 0, .slice none 0 0] 35 (0, 0))
   rw [← hW1, ← hM, ← hR]; simpa using h
  ·rw [← hW1]; exact (hat0.alloc _).alloc _
  ·rw [← hW1]; exact ((Only.refl c w).alloc _).alloc _)
 have HSZ := hide hR
 have HMQ := hide hM
 have HWQ := hide hW1
 clear h hat0 hS1 hW1 hR hM
 obtain ⟨K, hK⟩ : ∃ K, kindC kindsB 1 s = K := ⟨_, rfl⟩
 have hk4 : K.1 ≤ 4 := by have := kind_le kindsB 1 s; rw [hK] at this; rcases this with h | h; omega; have h : K.1 < 1 + 4 := h; omega
 obtain ⟨b0, hb0⟩ : ∃ b, (K.1 != 0) = b := ⟨_, rfl⟩
 obtain ⟨P, hP⟩ : ∃ P, numC (-1) 199 (unlessC b0 7 K.2) = P := ⟨_, rfl⟩
 obtain ⟨s3, hs3⟩ : ∃ s3, markC [tColon] P.2 = s3 := ⟨_, rfl⟩
 obtain ⟨BB, hBB⟩ : ∃ BB, blocksC ([], s3) = BB := ⟨_, rfl⟩
 have hT : tileC s = (⟨(K.1 : Int), P.1, BB.1⟩, endC BB.2) := by
  unfold tileC
  simp only
  rw [hK, hb0, hP, hs3, hBB]
 have hl3 : leftC s3 ≤ 1099511627776 := by
  have h1 := left_kind kindsB 1 s
  have h2 := left_unless (x := 7) (by decide) b0 K.2
  have h3 := left_num (-1) 199 (unlessC b0 7 K.2)
  have h4 := left_mark [tColon] P.2
  rw [hK] at h1; rw [hP] at h3; rw [hs3] at h4
  omega
 have hpr := numC_rng (lo := -1) (hi := 199) (by decide) (by decide) (unlessC b0 7 K.2)
 rw [hP] at hpr
 rw [hT]
 have HPR := hide hpr
 have HPQ := hide hP; have HS3 := hide hs3; have HBB := hide hBB; have HL3 := hide hl3; have HB0 := hide hb0
 have HK0 := hide (show kindC (kindsB.drop (1 - 1)) 1 s = K from hK)
 have HK4 := hide hk4
 clear hT hP hs3 hBB hl hl3 hpr hb0 hK hk4
 go_enter Tryz.func38, Tryz.ntmps38
 go_wp2_with fail
 try rw [HSZ.out]
 try rw [HMQ.out]
 try rw [HWQ.out]
 go_loopw [4] (fun a wr => ∃ (k kd : Nat) (s' : Cur), a = .int .i64 k ∧ 1 ≤ k ∧ k ≤ 5 ∧ DTt w wr Z M c S1 kd 0 (.slice none 0 0) [] s' ∧ ((kd = 0 ∧ kindC (kindsB.drop (k - 1)) k s' = K) ∨ (kd ≠ 0 ∧ K = (kd, s')))) (fun a _ => 5 - (intOf a).toNat)
 case atStart => exact ⟨1, 0, s, rfl, Nat.le_refl _, by omega, HT1.out, .inl ⟨rfl, HK0.out⟩⟩
 case round =>
  obtain ⟨k, kd, s', rfl, hk1, hk5, ht, hkk⟩ := hrel
  have HT := hide ht
  clear ht
  obtain ⟨m0, m1, m2, f0, f1, f2, ml⟩ := HT.out.cells
  by_cases hgo : k ≤ 4 ∧ kd = 0
  ·obtain ⟨hk4, rfl⟩ := hgo
   have HKC := hide (show kindC (kindT k :: kindsB.drop k) k s' = K from by rcases hkk with h | h; rw [← kindsB_drop k hk1 hk4]; exact h.2; exact absurd rfl h.1)
   clear hkk
   have HKD := hide (kind28_any k hk1 hk4 wr)
   have c1 : decide ((k : Int) ≤ 4) = true := by simp; omega
   have hwk : IntKind.i64.wrap ((k : Int) + 1) = (k : Int) + 1 := IntWalk.i64_in _ (by omega)
   cases hb : isC (.nm (kindT k)) s' with
   | true =>
    have HKE := hide (show K = (k, popC s') from by rw [← HKC.out, kindC_cons, if_pos hb])
    have HKY := hide (fun (u : Ext) => show Calls Tryz.prog 36 #[.pointer (some ⟨c, 0, none⟩), .string (kindT k)] (wr.ext u) (DocP S1 c (wr.ext u) (popC s') (.bool true)) from by have h := dKey (HT.out.ext u).cur (kindT k); rw [hb] at h; exact h)
    clear hb HKC
    go_wp2_with (first | (go_at_call 86; (with_reducible refine HKD.out.mono ?_); rintro e _ ⟨rfl, u, rfl⟩; have HU := hide (HT.out.ext u)) | (go_at_call 36; (with_reducible refine (HKY.out _).mono ?_); rintro e V ⟨rfl, hat, hon⟩; have HV := hide (HU.out.call hon hat); clear hat hon; refine Hd.out ?_))
    clear m0 m1 m2 f0 f1 f2 ml
    obtain ⟨m0, m1, m2, f0, f1, f2, ml⟩ := HV.out.cells
    refine hide ?_
    go_wp2_with fail
    obtain ⟨Y1, hY1⟩ : ∃ Y, V.setCell ⟨M, 0, none⟩ (.int .i64 k) = Y := ⟨_, rfl⟩
    have HY := hide (show DTt w Y1 Z M c S1 k 0 (.slice none 0 0) [] (popC s') from by rw [← hY1]; exact HV.out.set rfl HV.out.own)
    try rw [hY1]
    clear hY1
    go_roundw
    case rel => exact ⟨k + 1, k, popC s', by go_num, by omega, by omega, HY.out, .inr ⟨by omega, HKE.out⟩⟩
    case measure => simp [intOf]; omega
   | false =>
    have HKE := hide (show kindC (kindsB.drop (k + 1 - 1)) (k + 1) s' = K from by rw [← HKC.out, kindC_cons, if_neg (by rw [hb]; decide)]; rfl)
    have HKY := hide (fun (u : Ext) => show Calls Tryz.prog 36 #[.pointer (some ⟨c, 0, none⟩), .string (kindT k)] (wr.ext u) (DocP S1 c (wr.ext u) s' (.bool false)) from by have h := dKey (HT.out.ext u).cur (kindT k); rw [hb] at h; exact h)
    clear hb HKC
    go_wp2_with (first | (go_at_call 86; (with_reducible refine HKD.out.mono ?_); rintro e _ ⟨rfl, u, rfl⟩; have HU := hide (HT.out.ext u)) | (go_at_call 36; (with_reducible refine (HKY.out _).mono ?_); rintro e V ⟨rfl, hat, hon⟩; have HV := hide (HU.out.call hon hat); clear hat hon))
    go_roundw
    case rel => exact ⟨k + 1, 0, s', by go_num, by omega, by omega, HV.out, .inl ⟨rfl, HKE.out⟩⟩
    case measure => simp [intOf]; omega
  ·have HKE := hide (show K = (kd, s') from by
    rcases hkk with ⟨h1, h2⟩ | h
    ·have hk : k = 5 := by omega
     subst hk h1
     exact h2.symm
    ·exact h.2)
   clear hkk
   have HNM := hide (fun (W : World) (h : DocAt W S1 c (unlessC b0 7 K.2)) => show Calls Tryz.prog 87 #[.pointer (some ⟨c, 0, none⟩), .int .i64 (-1), .int .i64 199] W (DocP S1 c W P.2 (.int .i64 P.1)) from by have h := dNum h (-1) 199; rw [HPQ.out] at h; exact h)
   have hkd4 : kd ≤ 4 := by have h1 := HK4.out; rw [HKE.out] at h1; exact h1
   by_cases hkd : kd = 0
   ·have hk : k = 5 := by omega
    have hkb : ((kd : Int) == 0) = true := by simp; omega
    have c1 : decide ((k : Int) ≤ 4) = false := by simp; omega
    have HB := hide (show unlessC b0 7 K.2 = failC 7 s' from by rw [← HB0.out, HKE.out, hkd]; rfl)
    have HFL := hide (show Calls Tryz.prog 37 #[.pointer (some ⟨c, 0, none⟩), .int .i64 7] wr (DocP S1 c wr (failC 7 s') (.tuple #[])) from dFail HT.out.cur 7)
    clear hk hgo hkd
    go_wp2_with (first | (go_at_call 37; (with_reducible refine HFL.out.mono ?_); rintro e V9 ⟨rfl, hat, hon⟩; have HT9 := hide (show DTt w V9 Z M c S1 kd 0 (.slice none 0 0) [] (unlessC b0 7 K.2) from HB.out ▸ HT.out.call hon hat); clear hat hon) | (go_at_call 87; refine Hd.out ?_))
    refine hide ?_
    (with_reducible refine (HNM.out _ HT9.out.cur).mono ?_)
    rintro e V10 ⟨rfl, hat, hon⟩
    have HT10 := hide (HT9.out.call hon hat)
    clear hat hon m0 m1 m2 f0 f1 f2 ml
    obtain ⟨m0, m1, m2, f0, f1, f2, ml⟩ := HT10.out.cells
    obtain ⟨Y2, hY2⟩ : ∃ Y, V10.setCell ⟨M, 1, none⟩ (.int .i64 P.1) = Y := ⟨_, rfl⟩
    have HT11 := hide (show DTt w Y2 Z M c S1 kd P.1 (.slice none 0 0) [] P.2 from by rw [← hY2]; exact HT10.out.set rfl HT10.out.own)
    have HMK := hide (show Calls Tryz.prog 88 #[.pointer (some ⟨c, 0, none⟩), .slice (some ⟨Y2.heap.size, 0, none⟩) 1 1] (Y2.alloc (.cells #[.string ⟨#[58]⟩] 9)) (DocP S1 c (Y2.alloc (.cells #[.string ⟨#[58]⟩] 9)) s3 (.tuple #[])) from by
     have h := dMark (HT11.out.alloc (.cells #[.string ⟨#[58]⟩] 9)).cur (ts := [tColon]) (Sl.lit (S := fun _ => False) (S' := fun b => c < b) (us := [.string ⟨#[58]⟩]) rfl ⟨[.string ⟨#[58]⟩], [], rfl, ⟨rfl, by unfold maxLen; decide⟩, rfl⟩ rfl (by decide) (fun _ h => h.elim) (by have := HT11.out.o1; have := HT11.out.zl; omega)) (by show ¬ c < c; omega)
     rw [HS3.out] at h
     exact h)
    go_wp2_with (first | (go_at_call 88; (with_reducible refine HMK.out.mono ?_); rintro e V5 ⟨rfl, hat, hon⟩; have HT12 := hide ((HT11.out.alloc (.cells #[.string ⟨#[58]⟩] 9)).call hon hat); clear hat hon))
    clear hY2 HMK HT10 HT11 HT9 m0 m1 m2 f0 f1 f2 ml
    go_loopw [] (fun wr => ∃ (A : Option Addr) (n k : Nat) (l : List Int) (s' : Cur), l.length = n ∧ DTt w wr Z M c S1 kd P.1 (.slice A n k) l s' ∧ blocksC (l, s') = BB ∧ n + leftC s' ≤ 1099511627776 ∧ (n ≤ 200 ∨ leftC s' = 0)) (fun wr => leftM c wr)
    case atStart => exact ⟨none, 0, 0, [], s3, rfl, HT12.out, HBB.out, by have := HL3.out; simpa using this, .inl (by omega)⟩
    case round =>
     obtain ⟨A, n, k2, l, s4, hn, ht, hbb, hll, hnx⟩ := hrel
     have HT13 := hide ht; have HBQ := hide hbb; have HN := hide hn; have HLL := hide hll; have HNX0 := hide hnx
     have HEN := hide (dEnds ht.cur)
     have HLE := hide ht.cur.leftM_
     clear ht hbb hn hll hnx HT12
     obtain ⟨m0, m1, m2, f0, f1, f2, ml⟩ := HT13.out.cells
     cases he : endsC s4 with
     | true =>
      rw [he] at HEN
      have HE := hide (show BB = (l, s4) from by rw [← HBQ.out, blocksC_stop (show blockG (l, s4) = none from if_pos he)])
      clear he
      have HED := hide (dEnd HT13.out.cur)
      go_wp2_with (first | (go_at_call 89; (with_reducible refine HEN.out.mono ?_); rintro e w' ⟨rfl, rfl⟩) | (go_at_call 90; (with_reducible refine HED.out.mono ?_); rintro e V6 ⟨rfl, hat, hon⟩; have HT14 := hide (HT13.out.call hon hat); clear hat hon; refine Hd.out ?_))
      clear m0 m1 m2 f0 f1 f2 ml
      obtain ⟨m0, m1, m2, f0, f1, f2, ml⟩ := HT14.out.cells
      obtain ⟨z0, z1, z2, y0, y1, y2, zl⟩ := HT14.out.zcells
      have HFN := hide (HT14.out.fin (.int .i64 kd) (.int .i64 P.1) (.slice A n k2))
      refine hide ?_
      go_wp2_with fail
      refine bodyPost_ret (results_cell_row Tryz.results38 _ _ Z _ _ (0, 0) _ rfl HFN.out.1 Tryz.underlying35 rfl (by kernel_rfl)) rfl ?_
      rw [HE.out, HKE.out]
      exact ⟨A, n, k2, rfl, HFN.out.2.1.lower28 (by have := HT14.out.o2; have := HT14.out.o4; omega), HFN.out.2.2.1.moreS (fun b _ h => by rw [HS1.out] at h; exact h.1) HNS.out, HFN.out.2.2.2⟩
     | false =>
      rw [he] at HEN
      have HEE := hide he
      have hn200 : n ≤ 200 := by have h1 := left_ends he; rcases HNX0.out with h | h; exact h; omega
      clear he
      by_cases hn2 : n = 200
      ·obtain ⟨s1, hs1⟩ : ∃ s1, failC 3 s4 = s1 := ⟨_, rfl⟩
       have hnb : ((n : Int) == 200) = true := by simp; omega
       have HS1Q := hide (show unlessC (decide (l.length < 200)) 3 s4 = s1 from by rw [HN.out, hn2]; exact hs1)
       have HNX := hide (show ∀ q, numC 0 199 s1 = q → (n + 1 ≤ 200 ∨ leftC q.2 = 0) from fun q hq => .inr (by have h1 := left_num 0 199 s1; have h2 := left_fail (x := 3) (by decide) s4; rw [hs1] at h2; rw [hq] at h1; omega))
       have HFL := hide (show Calls Tryz.prog 37 #[.pointer (some ⟨c, 0, none⟩), .int .i64 3] wr (DocP S1 c wr s1 (.tuple #[])) from hs1 ▸ dFail HT13.out.cur 3)
       clear hn2 hs1
       go_wp2_with (first | (go_at_call 89; (with_reducible refine HEN.out.mono ?_); rintro e w' ⟨rfl, rfl⟩) | (go_at_call 37; (with_reducible refine HFL.out.mono ?_); rintro e V6 ⟨rfl, hat, hon⟩; have HT14 := hide (HT13.out.call hon hat); clear hat hon))
       clear m0 m1 m2 f0 f1 f2 ml HFL HEN
       obtain ⟨q, hq⟩ : ∃ q, numC 0 199 s1 = q := ⟨_, rfl⟩
       have hgo2 : blockG (l, s4) = some (l ++ [q.1], q.2) := by
        unfold blockG
        rw [if_neg (by simp only; rw [HEE.out]; decide)]
        simp only
        rw [HS1Q.out, hq]
       have HGO := hide (show blocksC (l ++ [q.1], q.2) = BB from by rw [← HBQ.out, blocksC_go hgo2])
       have HDEC := hide (show leftC q.2 < leftC s4 from blockG_dec _ _ hgo2)
       have HQR := hide (show 0 ≤ q.1 ∧ q.1 ≤ 199 from hq ▸ numC_rng (lo := 0) (hi := 199) (by decide) (by decide) s1)
       have HQ := hide hq
       clear hgo2 hq
       obtain ⟨m0, m1, m2, f0, f1, f2, ml⟩ := HT14.out.cells
       have hcM : M ≠ c := by have := HT14.out.o1; have := HT14.out.o2; omega
       refine wp_region_cur c [3] [3, 4] 5 (by kernel_rfl) rfl (by kernel_rfl) (by kernel_rfl) ?_
       simp only [List.take_succ_cons, List.take_zero, List.drop_succ_cons, List.drop_zero]
       repeat (refine flowG_known (by kernel_rfl) (fun K hK => ?_); go_simp; (first | (refine hK _ ?_; clear hK K) | (apply Exists.intro; refine ⟨fun w' => ?_, hK _ ?_⟩; (fail); clear hK K)))
       refine flowG_knownF (by kernel_rfl) (fun K hK => ⟨.slice A n k2, fun W' hW' => ?_, hK _ ?_⟩)
       ·have x0 : W'.cell? ⟨M, 2, none⟩ = some (.slice A n k2) := (World.cell?_of_block (hW'.block M ml hcM)).trans m2
        have x1 : M < W'.heap.size := Nat.lt_of_lt_of_le ml hW'.size
        go_simp
       clear hK K
       repeat (refine flowG_known (by kernel_rfl) (fun K hK => ?_); go_simp; (first | (refine hK _ ?_; clear hK K) | (apply Exists.intro; refine ⟨fun w' => ?_, hK _ ?_⟩; (fail); clear hK K)))
       refine flowG_keep [] (DocI S1 c q.2 q.1) (by kernel_rfl) (DocI.stable_ rfl) (by kernel_rfl) (fun u hF => ?_) ?_
       ·try simp only [List.nil_append, List.cons_append, useH_f, useH_t, useH_nil]
        go_simp
        have hnum := dNum (HT14.out.cur.ext u) 0 199
        rw [HQ.out] at hnum
        refine hnum.mono ?_
        rintro e w' ⟨rfl, hat, hon⟩
        exact ⟨_, rfl, ⟨rfl, hat⟩, hF.trans hon, fun h => by cases h⟩
       refine flowG_keepF [true] (LitB V6.heap.size 3 [.int .i64 q.1] 1) (by kernel_rfl) (LitB.stable_ rfl) (fun W' hW' => ?_) ?_
       ·try simp only [List.nil_append, List.cons_append, useH_f, useH_t, useH_nil]
        rintro _ ⟨rfl, hat⟩
        go_simp
        exact ⟨⟨_, rfl, hW'.size, heap_alloc_new W' _⟩, hW'.alloc _, fun _ => ext_alloc W' _⟩
       refine flowG_done [true, true] (by kernel_rfl) (fun W' hW' => ?_)
       simp only [List.nil_append, List.cons_append, endH_f, endH_t, endH_nil]
       rintro _ ⟨rfl, hat⟩ _ ⟨g, rfl, hg, hrow⟩
       go_simp
       have HTW := hide (HT14.out.call hW' hat)
       have HRW := hide hrow
       clear hat hrow
       clear m0 m1 m2 f0 f1 f2 ml
       have hv9 : 0 ≤ q.1 ∧ q.1 ≤ 199 := HQR.out
       refine wpList_pushK W' rfl (.tmp 41) (.tmp 44) 33 rfl (M + 1) 3 i0 _ 8 Tryz.underlying33 HI0.out HZ.out HZ1.out HZ2.out rfl (.slice A n k2) l [q.1] rfl HTW.out.own ⟨g, 0, none⟩ 1 1 rfl rfl (by intro y hy; simp at hy; rw [hy]; unfold InI; omega) (fun j y hj => lit_news HRW.out j _ (by rw [List.getElem?_eq_some_iff] at hj ⊢; obtain ⟨h1, h2⟩ := hj; simp at h1; subst h1; simp at h2; exact ⟨by simp, by simp [h2]⟩)) (by have := HN.out; have := HLL.out; unfold maxLen; omega) (by have := HN.out; have := HLL.out; omega) (by have := HTW.out.ml; omega) ?_
       intro v' W2 ho1 ho2 hgr h5
       have HTG := hide (HTW.out.grown hgr ho2)
       obtain ⟨A', k', rfl⟩ := ho1.form
       have hl1 : (l ++ [q.1]).length = n + 1 := by rw [List.length_append, HN.out]; rfl
       rw [hl1] at ho1 ⊢
       have HO1 := hide ho1
       clear ho1 ho2 hgr h5 hv9
       obtain ⟨m0, m1, m2, f0, f1, f2, ml⟩ := HTG.out.cells
       obtain ⟨Y3, hY3⟩ : ∃ Y, W2.setCell ⟨M, 2, none⟩ (.slice A' (n + 1) k') = Y := ⟨_, rfl⟩
       have HTY := hide (show DTt w Y3 Z M c S1 kd P.1 (.slice A' (n + 1) k') (l ++ [q.1]) q.2 from by rw [← hY3]; exact HTG.out.set rfl HO1.out)
       go_wp2_with fail
       try rw [hY3]
       have HLY := hide HTY.out.cur.leftM_
       clear hY3
       go_roundw
       case rel => exact ⟨A', n + 1, k', l ++ [q.1], q.2, hl1, HTY.out, HGO.out, by have := HLL.out; have := HDEC.out; omega, HNX.out _ HQ.out⟩
       case measure => rw [HLY.out, HLE.out]; exact HDEC.out
      ·obtain ⟨s1, hs1⟩ : ∃ s1, s4 = s1 := ⟨_, rfl⟩
       have hnb : ((n : Int) == 200) = false := by simp; omega
       have HS1Q := hide (show unlessC (decide (l.length < 200)) 3 s4 = s1 from by rw [HN.out, decide_eq_true (by omega)]; exact hs1)
       have HNX := hide (show ∀ q, numC 0 199 s1 = q → (n + 1 ≤ 200 ∨ leftC q.2 = 0) from fun q hq => .inl (by omega))
       have HT14 := hide (hs1 ▸ HT13.out)
       clear hn2 hs1
       go_wp2_with (first | (go_at_call 89; (with_reducible refine HEN.out.mono ?_); rintro e w' ⟨rfl, rfl⟩))
       clear m0 m1 m2 f0 f1 f2 ml HEN
       obtain ⟨V6, hV6⟩ : ∃ V, wr = V := ⟨_, rfl⟩
       rw [hV6] at HT14 ⊢
       obtain ⟨q, hq⟩ : ∃ q, numC 0 199 s1 = q := ⟨_, rfl⟩
       have hgo2 : blockG (l, s4) = some (l ++ [q.1], q.2) := by
        unfold blockG
        rw [if_neg (by simp only; rw [HEE.out]; decide)]
        simp only
        rw [HS1Q.out, hq]
       have HGO := hide (show blocksC (l ++ [q.1], q.2) = BB from by rw [← HBQ.out, blocksC_go hgo2])
       have HDEC := hide (show leftC q.2 < leftC s4 from blockG_dec _ _ hgo2)
       have HQR := hide (show 0 ≤ q.1 ∧ q.1 ≤ 199 from hq ▸ numC_rng (lo := 0) (hi := 199) (by decide) (by decide) s1)
       have HQ := hide hq
       clear hgo2 hq
       obtain ⟨m0, m1, m2, f0, f1, f2, ml⟩ := HT14.out.cells
       have hcM : M ≠ c := by have := HT14.out.o1; have := HT14.out.o2; omega
       refine wp_region_cur c [3] [3, 4] 5 (by kernel_rfl) rfl (by kernel_rfl) (by kernel_rfl) ?_
       simp only [List.take_succ_cons, List.take_zero, List.drop_succ_cons, List.drop_zero]
       repeat (refine flowG_known (by kernel_rfl) (fun K hK => ?_); go_simp; (first | (refine hK _ ?_; clear hK K) | (apply Exists.intro; refine ⟨fun w' => ?_, hK _ ?_⟩; (fail); clear hK K)))
       refine flowG_knownF (by kernel_rfl) (fun K hK => ⟨.slice A n k2, fun W' hW' => ?_, hK _ ?_⟩)
       ·have x0 : W'.cell? ⟨M, 2, none⟩ = some (.slice A n k2) := (World.cell?_of_block (hW'.block M ml hcM)).trans m2
        have x1 : M < W'.heap.size := Nat.lt_of_lt_of_le ml hW'.size
        go_simp
       clear hK K
       repeat (refine flowG_known (by kernel_rfl) (fun K hK => ?_); go_simp; (first | (refine hK _ ?_; clear hK K) | (apply Exists.intro; refine ⟨fun w' => ?_, hK _ ?_⟩; (fail); clear hK K)))
       refine flowG_keep [] (DocI S1 c q.2 q.1) (by kernel_rfl) (DocI.stable_ rfl) (by kernel_rfl) (fun u hF => ?_) ?_
       ·try simp only [List.nil_append, List.cons_append, useH_f, useH_t, useH_nil]
        go_simp
        have hnum := dNum (HT14.out.cur.ext u) 0 199
        rw [HQ.out] at hnum
        refine hnum.mono ?_
        rintro e w' ⟨rfl, hat, hon⟩
        exact ⟨_, rfl, ⟨rfl, hat⟩, hF.trans hon, fun h => by cases h⟩
       refine flowG_keepF [true] (LitB V6.heap.size 3 [.int .i64 q.1] 1) (by kernel_rfl) (LitB.stable_ rfl) (fun W' hW' => ?_) ?_
       ·try simp only [List.nil_append, List.cons_append, useH_f, useH_t, useH_nil]
        rintro _ ⟨rfl, hat⟩
        go_simp
        exact ⟨⟨_, rfl, hW'.size, heap_alloc_new W' _⟩, hW'.alloc _, fun _ => ext_alloc W' _⟩
       refine flowG_done [true, true] (by kernel_rfl) (fun W' hW' => ?_)
       simp only [List.nil_append, List.cons_append, endH_f, endH_t, endH_nil]
       rintro _ ⟨rfl, hat⟩ _ ⟨g, rfl, hg, hrow⟩
       go_simp
       have HTW := hide (HT14.out.call hW' hat)
       have HRW := hide hrow
       clear hat hrow
       clear m0 m1 m2 f0 f1 f2 ml
       have hv9 : 0 ≤ q.1 ∧ q.1 ≤ 199 := HQR.out
       refine wpList_pushK W' rfl (.tmp 41) (.tmp 44) 33 rfl (M + 1) 3 i0 _ 8 Tryz.underlying33 HI0.out HZ.out HZ1.out HZ2.out rfl (.slice A n k2) l [q.1] rfl HTW.out.own ⟨g, 0, none⟩ 1 1 rfl rfl (by intro y hy; simp at hy; rw [hy]; unfold InI; omega) (fun j y hj => lit_news HRW.out j _ (by rw [List.getElem?_eq_some_iff] at hj ⊢; obtain ⟨h1, h2⟩ := hj; simp at h1; subst h1; simp at h2; exact ⟨by simp, by simp [h2]⟩)) (by have := HN.out; have := HLL.out; unfold maxLen; omega) (by have := HN.out; have := HLL.out; omega) (by have := HTW.out.ml; omega) ?_
       intro v' W2 ho1 ho2 hgr h5
       have HTG := hide (HTW.out.grown hgr ho2)
       obtain ⟨A', k', rfl⟩ := ho1.form
       have hl1 : (l ++ [q.1]).length = n + 1 := by rw [List.length_append, HN.out]; rfl
       rw [hl1] at ho1 ⊢
       have HO1 := hide ho1
       clear ho1 ho2 hgr h5 hv9
       obtain ⟨m0, m1, m2, f0, f1, f2, ml⟩ := HTG.out.cells
       obtain ⟨Y3, hY3⟩ : ∃ Y, W2.setCell ⟨M, 2, none⟩ (.slice A' (n + 1) k') = Y := ⟨_, rfl⟩
       have HTY := hide (show DTt w Y3 Z M c S1 kd P.1 (.slice A' (n + 1) k') (l ++ [q.1]) q.2 from by rw [← hY3]; exact HTG.out.set rfl HO1.out)
       go_wp2_with fail
       try rw [hY3]
       have HLY := hide HTY.out.cur.leftM_
       clear hY3
       go_roundw
       case rel => exact ⟨A', n + 1, k', l ++ [q.1], q.2, hl1, HTY.out, HGO.out, by have := HLL.out; have := HDEC.out; omega, HNX.out _ HQ.out⟩
       case measure => rw [HLY.out, HLE.out]; exact HDEC.out
   ·have HB := hide (show unlessC b0 7 K.2 = s' from by rw [← HB0.out, HKE.out]; unfold unlessC; rw [if_pos (by simp; omega)])
    have HT9 := hide (show DTt w wr Z M c S1 kd 0 (.slice none 0 0) [] (unlessC b0 7 K.2) from HB.out ▸ HT.out)
    have hkb : ((kd : Int) == 0) = false := by simp; omega
    by_cases hk : k ≤ 4
    ·have c1 : decide ((k : Int) ≤ 4) = true := by simp; omega
     go_wp2_with (first | (go_at_call 87; refine Hd.out ?_))
     refine hide ?_
     (with_reducible refine (HNM.out _ HT9.out.cur).mono ?_)
     rintro e V10 ⟨rfl, hat, hon⟩
     have HT10 := hide (HT9.out.call hon hat)
     clear hat hon m0 m1 m2 f0 f1 f2 ml
     obtain ⟨m0, m1, m2, f0, f1, f2, ml⟩ := HT10.out.cells
     obtain ⟨Y2, hY2⟩ : ∃ Y, V10.setCell ⟨M, 1, none⟩ (.int .i64 P.1) = Y := ⟨_, rfl⟩
     have HT11 := hide (show DTt w Y2 Z M c S1 kd P.1 (.slice none 0 0) [] P.2 from by rw [← hY2]; exact HT10.out.set rfl HT10.out.own)
     have HMK := hide (show Calls Tryz.prog 88 #[.pointer (some ⟨c, 0, none⟩), .slice (some ⟨Y2.heap.size, 0, none⟩) 1 1] (Y2.alloc (.cells #[.string ⟨#[58]⟩] 9)) (DocP S1 c (Y2.alloc (.cells #[.string ⟨#[58]⟩] 9)) s3 (.tuple #[])) from by
      have h := dMark (HT11.out.alloc (.cells #[.string ⟨#[58]⟩] 9)).cur (ts := [tColon]) (Sl.lit (S := fun _ => False) (S' := fun b => c < b) (us := [.string ⟨#[58]⟩]) rfl ⟨[.string ⟨#[58]⟩], [], rfl, ⟨rfl, by unfold maxLen; decide⟩, rfl⟩ rfl (by decide) (fun _ h => h.elim) (by have := HT11.out.o1; have := HT11.out.zl; omega)) (by show ¬ c < c; omega)
      rw [HS3.out] at h
      exact h)
     go_wp2_with (first | (go_at_call 88; (with_reducible refine HMK.out.mono ?_); rintro e V5 ⟨rfl, hat, hon⟩; have HT12 := hide ((HT11.out.alloc (.cells #[.string ⟨#[58]⟩] 9)).call hon hat); clear hat hon))
     clear hY2 HMK HT10 HT11 HT9 m0 m1 m2 f0 f1 f2 ml
     go_loopw [] (fun wr => ∃ (A : Option Addr) (n k : Nat) (l : List Int) (s' : Cur), l.length = n ∧ DTt w wr Z M c S1 kd P.1 (.slice A n k) l s' ∧ blocksC (l, s') = BB ∧ n + leftC s' ≤ 1099511627776 ∧ (n ≤ 200 ∨ leftC s' = 0)) (fun wr => leftM c wr)
     case atStart => exact ⟨none, 0, 0, [], s3, rfl, HT12.out, HBB.out, by have := HL3.out; simpa using this, .inl (by omega)⟩
     case round =>
      obtain ⟨A, n, k2, l, s4, hn, ht, hbb, hll, hnx⟩ := hrel
      have HT13 := hide ht; have HBQ := hide hbb; have HN := hide hn; have HLL := hide hll; have HNX0 := hide hnx
      have HEN := hide (dEnds ht.cur)
      have HLE := hide ht.cur.leftM_
      clear ht hbb hn hll hnx HT12
      obtain ⟨m0, m1, m2, f0, f1, f2, ml⟩ := HT13.out.cells
      cases he : endsC s4 with
      | true =>
       rw [he] at HEN
       have HE := hide (show BB = (l, s4) from by rw [← HBQ.out, blocksC_stop (show blockG (l, s4) = none from if_pos he)])
       clear he
       have HED := hide (dEnd HT13.out.cur)
       go_wp2_with (first | (go_at_call 89; (with_reducible refine HEN.out.mono ?_); rintro e w' ⟨rfl, rfl⟩) | (go_at_call 90; (with_reducible refine HED.out.mono ?_); rintro e V6 ⟨rfl, hat, hon⟩; have HT14 := hide (HT13.out.call hon hat); clear hat hon; refine Hd.out ?_))
       clear m0 m1 m2 f0 f1 f2 ml
       obtain ⟨m0, m1, m2, f0, f1, f2, ml⟩ := HT14.out.cells
       obtain ⟨z0, z1, z2, y0, y1, y2, zl⟩ := HT14.out.zcells
       have HFN := hide (HT14.out.fin (.int .i64 kd) (.int .i64 P.1) (.slice A n k2))
       refine hide ?_
       go_wp2_with fail
       refine bodyPost_ret (results_cell_row Tryz.results38 _ _ Z _ _ (0, 0) _ rfl HFN.out.1 Tryz.underlying35 rfl (by kernel_rfl)) rfl ?_
       rw [HE.out, HKE.out]
       exact ⟨A, n, k2, rfl, HFN.out.2.1.lower28 (by have := HT14.out.o2; have := HT14.out.o4; omega), HFN.out.2.2.1.moreS (fun b _ h => by rw [HS1.out] at h; exact h.1) HNS.out, HFN.out.2.2.2⟩
      | false =>
       rw [he] at HEN
       have HEE := hide he
       have hn200 : n ≤ 200 := by have h1 := left_ends he; rcases HNX0.out with h | h; exact h; omega
       clear he
       by_cases hn2 : n = 200
       ·obtain ⟨s1, hs1⟩ : ∃ s1, failC 3 s4 = s1 := ⟨_, rfl⟩
        have hnb : ((n : Int) == 200) = true := by simp; omega
        have HS1Q := hide (show unlessC (decide (l.length < 200)) 3 s4 = s1 from by rw [HN.out, hn2]; exact hs1)
        have HNX := hide (show ∀ q, numC 0 199 s1 = q → (n + 1 ≤ 200 ∨ leftC q.2 = 0) from fun q hq => .inr (by have h1 := left_num 0 199 s1; have h2 := left_fail (x := 3) (by decide) s4; rw [hs1] at h2; rw [hq] at h1; omega))
        have HFL := hide (show Calls Tryz.prog 37 #[.pointer (some ⟨c, 0, none⟩), .int .i64 3] wr (DocP S1 c wr s1 (.tuple #[])) from hs1 ▸ dFail HT13.out.cur 3)
        clear hn2 hs1
        go_wp2_with (first | (go_at_call 89; (with_reducible refine HEN.out.mono ?_); rintro e w' ⟨rfl, rfl⟩) | (go_at_call 37; (with_reducible refine HFL.out.mono ?_); rintro e V6 ⟨rfl, hat, hon⟩; have HT14 := hide (HT13.out.call hon hat); clear hat hon))
        clear m0 m1 m2 f0 f1 f2 ml HFL HEN
        obtain ⟨q, hq⟩ : ∃ q, numC 0 199 s1 = q := ⟨_, rfl⟩
        have hgo2 : blockG (l, s4) = some (l ++ [q.1], q.2) := by
         unfold blockG
         rw [if_neg (by simp only; rw [HEE.out]; decide)]
         simp only
         rw [HS1Q.out, hq]
        have HGO := hide (show blocksC (l ++ [q.1], q.2) = BB from by rw [← HBQ.out, blocksC_go hgo2])
        have HDEC := hide (show leftC q.2 < leftC s4 from blockG_dec _ _ hgo2)
        have HQR := hide (show 0 ≤ q.1 ∧ q.1 ≤ 199 from hq ▸ numC_rng (lo := 0) (hi := 199) (by decide) (by decide) s1)
        have HQ := hide hq
        clear hgo2 hq
        obtain ⟨m0, m1, m2, f0, f1, f2, ml⟩ := HT14.out.cells
        have hcM : M ≠ c := by have := HT14.out.o1; have := HT14.out.o2; omega
        refine wp_region_cur c [3] [3, 4] 5 (by kernel_rfl) rfl (by kernel_rfl) (by kernel_rfl) ?_
        simp only [List.take_succ_cons, List.take_zero, List.drop_succ_cons, List.drop_zero]
        repeat (refine flowG_known (by kernel_rfl) (fun K hK => ?_); go_simp; (first | (refine hK _ ?_; clear hK K) | (apply Exists.intro; refine ⟨fun w' => ?_, hK _ ?_⟩; (fail); clear hK K)))
        refine flowG_knownF (by kernel_rfl) (fun K hK => ⟨.slice A n k2, fun W' hW' => ?_, hK _ ?_⟩)
        ·have x0 : W'.cell? ⟨M, 2, none⟩ = some (.slice A n k2) := (World.cell?_of_block (hW'.block M ml hcM)).trans m2
         have x1 : M < W'.heap.size := Nat.lt_of_lt_of_le ml hW'.size
         go_simp
        clear hK K
        repeat (refine flowG_known (by kernel_rfl) (fun K hK => ?_); go_simp; (first | (refine hK _ ?_; clear hK K) | (apply Exists.intro; refine ⟨fun w' => ?_, hK _ ?_⟩; (fail); clear hK K)))
        refine flowG_keep [] (DocI S1 c q.2 q.1) (by kernel_rfl) (DocI.stable_ rfl) (by kernel_rfl) (fun u hF => ?_) ?_
        ·try simp only [List.nil_append, List.cons_append, useH_f, useH_t, useH_nil]
         go_simp
         have hnum := dNum (HT14.out.cur.ext u) 0 199
         rw [HQ.out] at hnum
         refine hnum.mono ?_
         rintro e w' ⟨rfl, hat, hon⟩
         exact ⟨_, rfl, ⟨rfl, hat⟩, hF.trans hon, fun h => by cases h⟩
        refine flowG_keepF [true] (LitB V6.heap.size 3 [.int .i64 q.1] 1) (by kernel_rfl) (LitB.stable_ rfl) (fun W' hW' => ?_) ?_
        ·try simp only [List.nil_append, List.cons_append, useH_f, useH_t, useH_nil]
         rintro _ ⟨rfl, hat⟩
         go_simp
         exact ⟨⟨_, rfl, hW'.size, heap_alloc_new W' _⟩, hW'.alloc _, fun _ => ext_alloc W' _⟩
        refine flowG_done [true, true] (by kernel_rfl) (fun W' hW' => ?_)
        simp only [List.nil_append, List.cons_append, endH_f, endH_t, endH_nil]
        rintro _ ⟨rfl, hat⟩ _ ⟨g, rfl, hg, hrow⟩
        go_simp
        have HTW := hide (HT14.out.call hW' hat)
        have HRW := hide hrow
        clear hat hrow
        clear m0 m1 m2 f0 f1 f2 ml
        have hv9 : 0 ≤ q.1 ∧ q.1 ≤ 199 := HQR.out
        refine wpList_pushK W' rfl (.tmp 41) (.tmp 44) 33 rfl (M + 1) 3 i0 _ 8 Tryz.underlying33 HI0.out HZ.out HZ1.out HZ2.out rfl (.slice A n k2) l [q.1] rfl HTW.out.own ⟨g, 0, none⟩ 1 1 rfl rfl (by intro y hy; simp at hy; rw [hy]; unfold InI; omega) (fun j y hj => lit_news HRW.out j _ (by rw [List.getElem?_eq_some_iff] at hj ⊢; obtain ⟨h1, h2⟩ := hj; simp at h1; subst h1; simp at h2; exact ⟨by simp, by simp [h2]⟩)) (by have := HN.out; have := HLL.out; unfold maxLen; omega) (by have := HN.out; have := HLL.out; omega) (by have := HTW.out.ml; omega) ?_
        intro v' W2 ho1 ho2 hgr h5
        have HTG := hide (HTW.out.grown hgr ho2)
        obtain ⟨A', k', rfl⟩ := ho1.form
        have hl1 : (l ++ [q.1]).length = n + 1 := by rw [List.length_append, HN.out]; rfl
        rw [hl1] at ho1 ⊢
        have HO1 := hide ho1
        clear ho1 ho2 hgr h5 hv9
        obtain ⟨m0, m1, m2, f0, f1, f2, ml⟩ := HTG.out.cells
        obtain ⟨Y3, hY3⟩ : ∃ Y, W2.setCell ⟨M, 2, none⟩ (.slice A' (n + 1) k') = Y := ⟨_, rfl⟩
        have HTY := hide (show DTt w Y3 Z M c S1 kd P.1 (.slice A' (n + 1) k') (l ++ [q.1]) q.2 from by rw [← hY3]; exact HTG.out.set rfl HO1.out)
        go_wp2_with fail
        try rw [hY3]
        have HLY := hide HTY.out.cur.leftM_
        clear hY3
        go_roundw
        case rel => exact ⟨A', n + 1, k', l ++ [q.1], q.2, hl1, HTY.out, HGO.out, by have := HLL.out; have := HDEC.out; omega, HNX.out _ HQ.out⟩
        case measure => rw [HLY.out, HLE.out]; exact HDEC.out
       ·obtain ⟨s1, hs1⟩ : ∃ s1, s4 = s1 := ⟨_, rfl⟩
        have hnb : ((n : Int) == 200) = false := by simp; omega
        have HS1Q := hide (show unlessC (decide (l.length < 200)) 3 s4 = s1 from by rw [HN.out, decide_eq_true (by omega)]; exact hs1)
        have HNX := hide (show ∀ q, numC 0 199 s1 = q → (n + 1 ≤ 200 ∨ leftC q.2 = 0) from fun q hq => .inl (by omega))
        have HT14 := hide (hs1 ▸ HT13.out)
        clear hn2 hs1
        go_wp2_with (first | (go_at_call 89; (with_reducible refine HEN.out.mono ?_); rintro e w' ⟨rfl, rfl⟩))
        clear m0 m1 m2 f0 f1 f2 ml HEN
        obtain ⟨V6, hV6⟩ : ∃ V, wr = V := ⟨_, rfl⟩
        rw [hV6] at HT14 ⊢
        obtain ⟨q, hq⟩ : ∃ q, numC 0 199 s1 = q := ⟨_, rfl⟩
        have hgo2 : blockG (l, s4) = some (l ++ [q.1], q.2) := by
         unfold blockG
         rw [if_neg (by simp only; rw [HEE.out]; decide)]
         simp only
         rw [HS1Q.out, hq]
        have HGO := hide (show blocksC (l ++ [q.1], q.2) = BB from by rw [← HBQ.out, blocksC_go hgo2])
        have HDEC := hide (show leftC q.2 < leftC s4 from blockG_dec _ _ hgo2)
        have HQR := hide (show 0 ≤ q.1 ∧ q.1 ≤ 199 from hq ▸ numC_rng (lo := 0) (hi := 199) (by decide) (by decide) s1)
        have HQ := hide hq
        clear hgo2 hq
        obtain ⟨m0, m1, m2, f0, f1, f2, ml⟩ := HT14.out.cells
        have hcM : M ≠ c := by have := HT14.out.o1; have := HT14.out.o2; omega
        refine wp_region_cur c [3] [3, 4] 5 (by kernel_rfl) rfl (by kernel_rfl) (by kernel_rfl) ?_
        simp only [List.take_succ_cons, List.take_zero, List.drop_succ_cons, List.drop_zero]
        repeat (refine flowG_known (by kernel_rfl) (fun K hK => ?_); go_simp; (first | (refine hK _ ?_; clear hK K) | (apply Exists.intro; refine ⟨fun w' => ?_, hK _ ?_⟩; (fail); clear hK K)))
        refine flowG_knownF (by kernel_rfl) (fun K hK => ⟨.slice A n k2, fun W' hW' => ?_, hK _ ?_⟩)
        ·have x0 : W'.cell? ⟨M, 2, none⟩ = some (.slice A n k2) := (World.cell?_of_block (hW'.block M ml hcM)).trans m2
         have x1 : M < W'.heap.size := Nat.lt_of_lt_of_le ml hW'.size
         go_simp
        clear hK K
        repeat (refine flowG_known (by kernel_rfl) (fun K hK => ?_); go_simp; (first | (refine hK _ ?_; clear hK K) | (apply Exists.intro; refine ⟨fun w' => ?_, hK _ ?_⟩; (fail); clear hK K)))
        refine flowG_keep [] (DocI S1 c q.2 q.1) (by kernel_rfl) (DocI.stable_ rfl) (by kernel_rfl) (fun u hF => ?_) ?_
        ·try simp only [List.nil_append, List.cons_append, useH_f, useH_t, useH_nil]
         go_simp
         have hnum := dNum (HT14.out.cur.ext u) 0 199
         rw [HQ.out] at hnum
         refine hnum.mono ?_
         rintro e w' ⟨rfl, hat, hon⟩
         exact ⟨_, rfl, ⟨rfl, hat⟩, hF.trans hon, fun h => by cases h⟩
        refine flowG_keepF [true] (LitB V6.heap.size 3 [.int .i64 q.1] 1) (by kernel_rfl) (LitB.stable_ rfl) (fun W' hW' => ?_) ?_
        ·try simp only [List.nil_append, List.cons_append, useH_f, useH_t, useH_nil]
         rintro _ ⟨rfl, hat⟩
         go_simp
         exact ⟨⟨_, rfl, hW'.size, heap_alloc_new W' _⟩, hW'.alloc _, fun _ => ext_alloc W' _⟩
        refine flowG_done [true, true] (by kernel_rfl) (fun W' hW' => ?_)
        simp only [List.nil_append, List.cons_append, endH_f, endH_t, endH_nil]
        rintro _ ⟨rfl, hat⟩ _ ⟨g, rfl, hg, hrow⟩
        go_simp
        have HTW := hide (HT14.out.call hW' hat)
        have HRW := hide hrow
        clear hat hrow
        clear m0 m1 m2 f0 f1 f2 ml
        have hv9 : 0 ≤ q.1 ∧ q.1 ≤ 199 := HQR.out
        refine wpList_pushK W' rfl (.tmp 41) (.tmp 44) 33 rfl (M + 1) 3 i0 _ 8 Tryz.underlying33 HI0.out HZ.out HZ1.out HZ2.out rfl (.slice A n k2) l [q.1] rfl HTW.out.own ⟨g, 0, none⟩ 1 1 rfl rfl (by intro y hy; simp at hy; rw [hy]; unfold InI; omega) (fun j y hj => lit_news HRW.out j _ (by rw [List.getElem?_eq_some_iff] at hj ⊢; obtain ⟨h1, h2⟩ := hj; simp at h1; subst h1; simp at h2; exact ⟨by simp, by simp [h2]⟩)) (by have := HN.out; have := HLL.out; unfold maxLen; omega) (by have := HN.out; have := HLL.out; omega) (by have := HTW.out.ml; omega) ?_
        intro v' W2 ho1 ho2 hgr h5
        have HTG := hide (HTW.out.grown hgr ho2)
        obtain ⟨A', k', rfl⟩ := ho1.form
        have hl1 : (l ++ [q.1]).length = n + 1 := by rw [List.length_append, HN.out]; rfl
        rw [hl1] at ho1 ⊢
        have HO1 := hide ho1
        clear ho1 ho2 hgr h5 hv9
        obtain ⟨m0, m1, m2, f0, f1, f2, ml⟩ := HTG.out.cells
        obtain ⟨Y3, hY3⟩ : ∃ Y, W2.setCell ⟨M, 2, none⟩ (.slice A' (n + 1) k') = Y := ⟨_, rfl⟩
        have HTY := hide (show DTt w Y3 Z M c S1 kd P.1 (.slice A' (n + 1) k') (l ++ [q.1]) q.2 from by rw [← hY3]; exact HTG.out.set rfl HO1.out)
        go_wp2_with fail
        try rw [hY3]
        have HLY := hide HTY.out.cur.leftM_
        clear hY3
        go_roundw
        case rel => exact ⟨A', n + 1, k', l ++ [q.1], q.2, hl1, HTY.out, HGO.out, by have := HLL.out; have := HDEC.out; omega, HNX.out _ HQ.out⟩
        case measure => rw [HLY.out, HLE.out]; exact HDEC.out
    ·have c1 : decide ((k : Int) ≤ 4) = false := by simp; omega
     go_wp2_with (first | (go_at_call 87; refine Hd.out ?_))
     refine hide ?_
     (with_reducible refine (HNM.out _ HT9.out.cur).mono ?_)
     rintro e V10 ⟨rfl, hat, hon⟩
     have HT10 := hide (HT9.out.call hon hat)
     clear hat hon m0 m1 m2 f0 f1 f2 ml
     obtain ⟨m0, m1, m2, f0, f1, f2, ml⟩ := HT10.out.cells
     obtain ⟨Y2, hY2⟩ : ∃ Y, V10.setCell ⟨M, 1, none⟩ (.int .i64 P.1) = Y := ⟨_, rfl⟩
     have HT11 := hide (show DTt w Y2 Z M c S1 kd P.1 (.slice none 0 0) [] P.2 from by rw [← hY2]; exact HT10.out.set rfl HT10.out.own)
     have HMK := hide (show Calls Tryz.prog 88 #[.pointer (some ⟨c, 0, none⟩), .slice (some ⟨Y2.heap.size, 0, none⟩) 1 1] (Y2.alloc (.cells #[.string ⟨#[58]⟩] 9)) (DocP S1 c (Y2.alloc (.cells #[.string ⟨#[58]⟩] 9)) s3 (.tuple #[])) from by
      have h := dMark (HT11.out.alloc (.cells #[.string ⟨#[58]⟩] 9)).cur (ts := [tColon]) (Sl.lit (S := fun _ => False) (S' := fun b => c < b) (us := [.string ⟨#[58]⟩]) rfl ⟨[.string ⟨#[58]⟩], [], rfl, ⟨rfl, by unfold maxLen; decide⟩, rfl⟩ rfl (by decide) (fun _ h => h.elim) (by have := HT11.out.o1; have := HT11.out.zl; omega)) (by show ¬ c < c; omega)
      rw [HS3.out] at h
      exact h)
     go_wp2_with (first | (go_at_call 88; (with_reducible refine HMK.out.mono ?_); rintro e V5 ⟨rfl, hat, hon⟩; have HT12 := hide ((HT11.out.alloc (.cells #[.string ⟨#[58]⟩] 9)).call hon hat); clear hat hon))
     clear hY2 HMK HT10 HT11 HT9 m0 m1 m2 f0 f1 f2 ml
     go_loopw [] (fun wr => ∃ (A : Option Addr) (n k : Nat) (l : List Int) (s' : Cur), l.length = n ∧ DTt w wr Z M c S1 kd P.1 (.slice A n k) l s' ∧ blocksC (l, s') = BB ∧ n + leftC s' ≤ 1099511627776 ∧ (n ≤ 200 ∨ leftC s' = 0)) (fun wr => leftM c wr)
     case atStart => exact ⟨none, 0, 0, [], s3, rfl, HT12.out, HBB.out, by have := HL3.out; simpa using this, .inl (by omega)⟩
     case round =>
      obtain ⟨A, n, k2, l, s4, hn, ht, hbb, hll, hnx⟩ := hrel
      have HT13 := hide ht; have HBQ := hide hbb; have HN := hide hn; have HLL := hide hll; have HNX0 := hide hnx
      have HEN := hide (dEnds ht.cur)
      have HLE := hide ht.cur.leftM_
      clear ht hbb hn hll hnx HT12
      obtain ⟨m0, m1, m2, f0, f1, f2, ml⟩ := HT13.out.cells
      cases he : endsC s4 with
      | true =>
       rw [he] at HEN
       have HE := hide (show BB = (l, s4) from by rw [← HBQ.out, blocksC_stop (show blockG (l, s4) = none from if_pos he)])
       clear he
       have HED := hide (dEnd HT13.out.cur)
       go_wp2_with (first | (go_at_call 89; (with_reducible refine HEN.out.mono ?_); rintro e w' ⟨rfl, rfl⟩) | (go_at_call 90; (with_reducible refine HED.out.mono ?_); rintro e V6 ⟨rfl, hat, hon⟩; have HT14 := hide (HT13.out.call hon hat); clear hat hon; refine Hd.out ?_))
       clear m0 m1 m2 f0 f1 f2 ml
       obtain ⟨m0, m1, m2, f0, f1, f2, ml⟩ := HT14.out.cells
       obtain ⟨z0, z1, z2, y0, y1, y2, zl⟩ := HT14.out.zcells
       have HFN := hide (HT14.out.fin (.int .i64 kd) (.int .i64 P.1) (.slice A n k2))
       refine hide ?_
       go_wp2_with fail
       refine bodyPost_ret (results_cell_row Tryz.results38 _ _ Z _ _ (0, 0) _ rfl HFN.out.1 Tryz.underlying35 rfl (by kernel_rfl)) rfl ?_
       rw [HE.out, HKE.out]
       exact ⟨A, n, k2, rfl, HFN.out.2.1.lower28 (by have := HT14.out.o2; have := HT14.out.o4; omega), HFN.out.2.2.1.moreS (fun b _ h => by rw [HS1.out] at h; exact h.1) HNS.out, HFN.out.2.2.2⟩
      | false =>
       rw [he] at HEN
       have HEE := hide he
       have hn200 : n ≤ 200 := by have h1 := left_ends he; rcases HNX0.out with h | h; exact h; omega
       clear he
       by_cases hn2 : n = 200
       ·obtain ⟨s1, hs1⟩ : ∃ s1, failC 3 s4 = s1 := ⟨_, rfl⟩
        have hnb : ((n : Int) == 200) = true := by simp; omega
        have HS1Q := hide (show unlessC (decide (l.length < 200)) 3 s4 = s1 from by rw [HN.out, hn2]; exact hs1)
        have HNX := hide (show ∀ q, numC 0 199 s1 = q → (n + 1 ≤ 200 ∨ leftC q.2 = 0) from fun q hq => .inr (by have h1 := left_num 0 199 s1; have h2 := left_fail (x := 3) (by decide) s4; rw [hs1] at h2; rw [hq] at h1; omega))
        have HFL := hide (show Calls Tryz.prog 37 #[.pointer (some ⟨c, 0, none⟩), .int .i64 3] wr (DocP S1 c wr s1 (.tuple #[])) from hs1 ▸ dFail HT13.out.cur 3)
        clear hn2 hs1
        go_wp2_with (first | (go_at_call 89; (with_reducible refine HEN.out.mono ?_); rintro e w' ⟨rfl, rfl⟩) | (go_at_call 37; (with_reducible refine HFL.out.mono ?_); rintro e V6 ⟨rfl, hat, hon⟩; have HT14 := hide (HT13.out.call hon hat); clear hat hon))
        clear m0 m1 m2 f0 f1 f2 ml HFL HEN
        obtain ⟨q, hq⟩ : ∃ q, numC 0 199 s1 = q := ⟨_, rfl⟩
        have hgo2 : blockG (l, s4) = some (l ++ [q.1], q.2) := by
         unfold blockG
         rw [if_neg (by simp only; rw [HEE.out]; decide)]
         simp only
         rw [HS1Q.out, hq]
        have HGO := hide (show blocksC (l ++ [q.1], q.2) = BB from by rw [← HBQ.out, blocksC_go hgo2])
        have HDEC := hide (show leftC q.2 < leftC s4 from blockG_dec _ _ hgo2)
        have HQR := hide (show 0 ≤ q.1 ∧ q.1 ≤ 199 from hq ▸ numC_rng (lo := 0) (hi := 199) (by decide) (by decide) s1)
        have HQ := hide hq
        clear hgo2 hq
        obtain ⟨m0, m1, m2, f0, f1, f2, ml⟩ := HT14.out.cells
        have hcM : M ≠ c := by have := HT14.out.o1; have := HT14.out.o2; omega
        refine wp_region_cur c [3] [3, 4] 5 (by kernel_rfl) rfl (by kernel_rfl) (by kernel_rfl) ?_
        simp only [List.take_succ_cons, List.take_zero, List.drop_succ_cons, List.drop_zero]
        repeat (refine flowG_known (by kernel_rfl) (fun K hK => ?_); go_simp; (first | (refine hK _ ?_; clear hK K) | (apply Exists.intro; refine ⟨fun w' => ?_, hK _ ?_⟩; (fail); clear hK K)))
        refine flowG_knownF (by kernel_rfl) (fun K hK => ⟨.slice A n k2, fun W' hW' => ?_, hK _ ?_⟩)
        ·have x0 : W'.cell? ⟨M, 2, none⟩ = some (.slice A n k2) := (World.cell?_of_block (hW'.block M ml hcM)).trans m2
         have x1 : M < W'.heap.size := Nat.lt_of_lt_of_le ml hW'.size
         go_simp
        clear hK K
        repeat (refine flowG_known (by kernel_rfl) (fun K hK => ?_); go_simp; (first | (refine hK _ ?_; clear hK K) | (apply Exists.intro; refine ⟨fun w' => ?_, hK _ ?_⟩; (fail); clear hK K)))
        refine flowG_keep [] (DocI S1 c q.2 q.1) (by kernel_rfl) (DocI.stable_ rfl) (by kernel_rfl) (fun u hF => ?_) ?_
        ·try simp only [List.nil_append, List.cons_append, useH_f, useH_t, useH_nil]
         go_simp
         have hnum := dNum (HT14.out.cur.ext u) 0 199
         rw [HQ.out] at hnum
         refine hnum.mono ?_
         rintro e w' ⟨rfl, hat, hon⟩
         exact ⟨_, rfl, ⟨rfl, hat⟩, hF.trans hon, fun h => by cases h⟩
        refine flowG_keepF [true] (LitB V6.heap.size 3 [.int .i64 q.1] 1) (by kernel_rfl) (LitB.stable_ rfl) (fun W' hW' => ?_) ?_
        ·try simp only [List.nil_append, List.cons_append, useH_f, useH_t, useH_nil]
         rintro _ ⟨rfl, hat⟩
         go_simp
         exact ⟨⟨_, rfl, hW'.size, heap_alloc_new W' _⟩, hW'.alloc _, fun _ => ext_alloc W' _⟩
        refine flowG_done [true, true] (by kernel_rfl) (fun W' hW' => ?_)
        simp only [List.nil_append, List.cons_append, endH_f, endH_t, endH_nil]
        rintro _ ⟨rfl, hat⟩ _ ⟨g, rfl, hg, hrow⟩
        go_simp
        have HTW := hide (HT14.out.call hW' hat)
        have HRW := hide hrow
        clear hat hrow
        clear m0 m1 m2 f0 f1 f2 ml
        have hv9 : 0 ≤ q.1 ∧ q.1 ≤ 199 := HQR.out
        refine wpList_pushK W' rfl (.tmp 41) (.tmp 44) 33 rfl (M + 1) 3 i0 _ 8 Tryz.underlying33 HI0.out HZ.out HZ1.out HZ2.out rfl (.slice A n k2) l [q.1] rfl HTW.out.own ⟨g, 0, none⟩ 1 1 rfl rfl (by intro y hy; simp at hy; rw [hy]; unfold InI; omega) (fun j y hj => lit_news HRW.out j _ (by rw [List.getElem?_eq_some_iff] at hj ⊢; obtain ⟨h1, h2⟩ := hj; simp at h1; subst h1; simp at h2; exact ⟨by simp, by simp [h2]⟩)) (by have := HN.out; have := HLL.out; unfold maxLen; omega) (by have := HN.out; have := HLL.out; omega) (by have := HTW.out.ml; omega) ?_
        intro v' W2 ho1 ho2 hgr h5
        have HTG := hide (HTW.out.grown hgr ho2)
        obtain ⟨A', k', rfl⟩ := ho1.form
        have hl1 : (l ++ [q.1]).length = n + 1 := by rw [List.length_append, HN.out]; rfl
        rw [hl1] at ho1 ⊢
        have HO1 := hide ho1
        clear ho1 ho2 hgr h5 hv9
        obtain ⟨m0, m1, m2, f0, f1, f2, ml⟩ := HTG.out.cells
        obtain ⟨Y3, hY3⟩ : ∃ Y, W2.setCell ⟨M, 2, none⟩ (.slice A' (n + 1) k') = Y := ⟨_, rfl⟩
        have HTY := hide (show DTt w Y3 Z M c S1 kd P.1 (.slice A' (n + 1) k') (l ++ [q.1]) q.2 from by rw [← hY3]; exact HTG.out.set rfl HO1.out)
        go_wp2_with fail
        try rw [hY3]
        have HLY := hide HTY.out.cur.leftM_
        clear hY3
        go_roundw
        case rel => exact ⟨A', n + 1, k', l ++ [q.1], q.2, hl1, HTY.out, HGO.out, by have := HLL.out; have := HDEC.out; omega, HNX.out _ HQ.out⟩
        case measure => rw [HLY.out, HLE.out]; exact HDEC.out
       ·obtain ⟨s1, hs1⟩ : ∃ s1, s4 = s1 := ⟨_, rfl⟩
        have hnb : ((n : Int) == 200) = false := by simp; omega
        have HS1Q := hide (show unlessC (decide (l.length < 200)) 3 s4 = s1 from by rw [HN.out, decide_eq_true (by omega)]; exact hs1)
        have HNX := hide (show ∀ q, numC 0 199 s1 = q → (n + 1 ≤ 200 ∨ leftC q.2 = 0) from fun q hq => .inl (by omega))
        have HT14 := hide (hs1 ▸ HT13.out)
        clear hn2 hs1
        go_wp2_with (first | (go_at_call 89; (with_reducible refine HEN.out.mono ?_); rintro e w' ⟨rfl, rfl⟩))
        clear m0 m1 m2 f0 f1 f2 ml HEN
        obtain ⟨V6, hV6⟩ : ∃ V, wr = V := ⟨_, rfl⟩
        rw [hV6] at HT14 ⊢
        obtain ⟨q, hq⟩ : ∃ q, numC 0 199 s1 = q := ⟨_, rfl⟩
        have hgo2 : blockG (l, s4) = some (l ++ [q.1], q.2) := by
         unfold blockG
         rw [if_neg (by simp only; rw [HEE.out]; decide)]
         simp only
         rw [HS1Q.out, hq]
        have HGO := hide (show blocksC (l ++ [q.1], q.2) = BB from by rw [← HBQ.out, blocksC_go hgo2])
        have HDEC := hide (show leftC q.2 < leftC s4 from blockG_dec _ _ hgo2)
        have HQR := hide (show 0 ≤ q.1 ∧ q.1 ≤ 199 from hq ▸ numC_rng (lo := 0) (hi := 199) (by decide) (by decide) s1)
        have HQ := hide hq
        clear hgo2 hq
        obtain ⟨m0, m1, m2, f0, f1, f2, ml⟩ := HT14.out.cells
        have hcM : M ≠ c := by have := HT14.out.o1; have := HT14.out.o2; omega
        refine wp_region_cur c [3] [3, 4] 5 (by kernel_rfl) rfl (by kernel_rfl) (by kernel_rfl) ?_
        simp only [List.take_succ_cons, List.take_zero, List.drop_succ_cons, List.drop_zero]
        repeat (refine flowG_known (by kernel_rfl) (fun K hK => ?_); go_simp; (first | (refine hK _ ?_; clear hK K) | (apply Exists.intro; refine ⟨fun w' => ?_, hK _ ?_⟩; (fail); clear hK K)))
        refine flowG_knownF (by kernel_rfl) (fun K hK => ⟨.slice A n k2, fun W' hW' => ?_, hK _ ?_⟩)
        ·have x0 : W'.cell? ⟨M, 2, none⟩ = some (.slice A n k2) := (World.cell?_of_block (hW'.block M ml hcM)).trans m2
         have x1 : M < W'.heap.size := Nat.lt_of_lt_of_le ml hW'.size
         go_simp
        clear hK K
        repeat (refine flowG_known (by kernel_rfl) (fun K hK => ?_); go_simp; (first | (refine hK _ ?_; clear hK K) | (apply Exists.intro; refine ⟨fun w' => ?_, hK _ ?_⟩; (fail); clear hK K)))
        refine flowG_keep [] (DocI S1 c q.2 q.1) (by kernel_rfl) (DocI.stable_ rfl) (by kernel_rfl) (fun u hF => ?_) ?_
        ·try simp only [List.nil_append, List.cons_append, useH_f, useH_t, useH_nil]
         go_simp
         have hnum := dNum (HT14.out.cur.ext u) 0 199
         rw [HQ.out] at hnum
         refine hnum.mono ?_
         rintro e w' ⟨rfl, hat, hon⟩
         exact ⟨_, rfl, ⟨rfl, hat⟩, hF.trans hon, fun h => by cases h⟩
        refine flowG_keepF [true] (LitB V6.heap.size 3 [.int .i64 q.1] 1) (by kernel_rfl) (LitB.stable_ rfl) (fun W' hW' => ?_) ?_
        ·try simp only [List.nil_append, List.cons_append, useH_f, useH_t, useH_nil]
         rintro _ ⟨rfl, hat⟩
         go_simp
         exact ⟨⟨_, rfl, hW'.size, heap_alloc_new W' _⟩, hW'.alloc _, fun _ => ext_alloc W' _⟩
        refine flowG_done [true, true] (by kernel_rfl) (fun W' hW' => ?_)
        simp only [List.nil_append, List.cons_append, endH_f, endH_t, endH_nil]
        rintro _ ⟨rfl, hat⟩ _ ⟨g, rfl, hg, hrow⟩
        go_simp
        have HTW := hide (HT14.out.call hW' hat)
        have HRW := hide hrow
        clear hat hrow
        clear m0 m1 m2 f0 f1 f2 ml
        have hv9 : 0 ≤ q.1 ∧ q.1 ≤ 199 := HQR.out
        refine wpList_pushK W' rfl (.tmp 41) (.tmp 44) 33 rfl (M + 1) 3 i0 _ 8 Tryz.underlying33 HI0.out HZ.out HZ1.out HZ2.out rfl (.slice A n k2) l [q.1] rfl HTW.out.own ⟨g, 0, none⟩ 1 1 rfl rfl (by intro y hy; simp at hy; rw [hy]; unfold InI; omega) (fun j y hj => lit_news HRW.out j _ (by rw [List.getElem?_eq_some_iff] at hj ⊢; obtain ⟨h1, h2⟩ := hj; simp at h1; subst h1; simp at h2; exact ⟨by simp, by simp [h2]⟩)) (by have := HN.out; have := HLL.out; unfold maxLen; omega) (by have := HN.out; have := HLL.out; omega) (by have := HTW.out.ml; omega) ?_
        intro v' W2 ho1 ho2 hgr h5
        have HTG := hide (HTW.out.grown hgr ho2)
        obtain ⟨A', k', rfl⟩ := ho1.form
        have hl1 : (l ++ [q.1]).length = n + 1 := by rw [List.length_append, HN.out]; rfl
        rw [hl1] at ho1 ⊢
        have HO1 := hide ho1
        clear ho1 ho2 hgr h5 hv9
        obtain ⟨m0, m1, m2, f0, f1, f2, ml⟩ := HTG.out.cells
        obtain ⟨Y3, hY3⟩ : ∃ Y, W2.setCell ⟨M, 2, none⟩ (.slice A' (n + 1) k') = Y := ⟨_, rfl⟩
        have HTY := hide (show DTt w Y3 Z M c S1 kd P.1 (.slice A' (n + 1) k') (l ++ [q.1]) q.2 from by rw [← hY3]; exact HTG.out.set rfl HO1.out)
        go_wp2_with fail
        try rw [hY3]
        have HLY := hide HTY.out.cur.leftM_
        clear hY3
        go_roundw
        case rel => exact ⟨A', n + 1, k', l ++ [q.1], q.2, hl1, HTY.out, HGO.out, by have := HLL.out; have := HDEC.out; omega, HNX.out _ HQ.out⟩
        case measure => rw [HLY.out, HLE.out]; exact HDEC.out
end Go.Proofs.YtppkanniefignaaGreatDoor
namespace Go.Proofs.YtppkanniefignaaGreatDoor
open Go.RowKit Go.Maps
theorem DocAt.peek_size {w : World} {S : Nat → Prop} {c : Nat} {s : Cur} (h : DocAt w S c s) : (peekC s).size ≤ 9223372036854775807 := by
 obtain ⟨A, n, k, _, _, _, _, hs⟩ := h.at_
 unfold peekC headC
 split
 ·rename_i x hx
  split
  ·split at hx
   ·rcases hl : s.ws with _ | ⟨y, l⟩
    ·rw [hl] at hx; cases hx
    ·rw [hl] at hx
     injection hx with hx
     subst hx
     rw [hl] at hs
     obtain ⟨b, off, z, us, _, _, _, hz, hus, _⟩ := hs.at_ (k := 0) (by have := hs.len; simp at this; omega)
     simp at hz
     subst hz
     have h1 := (Word.open_ hus).2.2.1
     unfold maxLen at h1
     exact h1
   ·cases hx
  ·simp
 ·simp
structure DRt (w0 W : World) (c : Nat) (S : Nat → Prop) (v : Value) (l : List Fact) (s : Cur) : Prop where
 cur : DocAt W S c s
 only : Only c w0 W
 own : OwnL W w0.heap.size 42 (fun _ => False) v l
 o1 : c < w0.heap.size
 o3 : ∀ b, S b → b < w0.heap.size
def FcAt (W : World) (B F : Nat) (v : Value) (f : Fact) : Prop := W.heap[F]? = some (.cells #[.int .i64 f.var, .bool f.loc.slot, .int .i64 f.loc.n] 42 (0, 0)) ∧ B ≤ F ∧ v.ownBlock ≠ some F
section
variable {w0 W W' : World} {B F c : Nat} {S : Nat → Prop} {v v' : Value} {l l' : List Fact} {s s' : Cur} {f f' : Fact}
theorem DRt.call (h : DRt w0 W c S v l s) (hon : Only c W W') (hat : DocAt W' S c s') : DRt w0 W' c S v l s' where
 cur := hat
 only := h.only.trans hon
 own := h.own.keep hon.size (fun _ hf => hf.elim) fun g hg => hon.block g (h.own.below_ g hg).2 (by have := (h.own.below_ g hg).1; have := h.o1; omega)
 o1 := h.o1
 o3 := h.o3
theorem DRt.ext (h : DRt w0 W c S v l s) (u : Ext) : DRt w0 (W.ext u) c S v l s := h.call ((Only.refl c W).ext u) (h.cur.ext u)
theorem DRt.alloc (h : DRt w0 W c S v l s) (o : Obj) : DRt w0 (W.alloc o) c S v l s := h.call ((Only.refl c W).alloc o) (h.cur.alloc o)
theorem DRt.set (h : DRt w0 W c S v l s) (hF : w0.heap.size ≤ F) (hv : v.ownBlock ≠ some F) (j : Nat) (x : Value) : DRt w0 (W.setCell ⟨F, j, none⟩ x) c S v l s where
 cur := h.cur.keep (by simp) (Below.heap_setCell W ⟨F, j, none⟩ x c (by show c ≠ F; have := h.o1; omega)) fun b hS _ => Below.heap_setCell W ⟨F, j, none⟩ x b (by show b ≠ F; have := h.o3 b hS; omega)
 only := ⟨h.only.os, h.only.tape, h.only.output, by have := h.only.size; simpa using this, fun b hb hc => (Below.heap_setCell W ⟨F, j, none⟩ x b (by show b ≠ F; omega)).trans (h.only.block b hb hc)⟩
 own := h.own.setCell (fun e => e) hv x
 o1 := h.o1
 o3 := h.o3
theorem DRt.grown {row : Option Nat} (h : DRt w0 W c S v l s) (hg : W.grownBy W' row) (hr : ∀ g, row = some g → w0.heap.size ≤ g) (ho : OwnL W' w0.heap.size 42 (fun _ => False) v' l') : DRt w0 W' c S v' l' s := by
 have hk : ∀ b, b < w0.heap.size → W'.heap[b]? = W.heap[b]? := fun b hb => hg.block b (by have := h.only.size; omega) (fun e => by have := hr b e.symm; omega)
 have hb0 : Below w0.heap.size W W' := (Below.refl _ _).grown hg h.only.size (fun r e => hr r e)
 exact ⟨h.cur.keep hg.size (hk c h.o1) (fun b hS _ => hk b (h.o3 b hS)), ⟨hb0.os.trans h.only.os, hb0.tape.trans h.only.tape, hb0.output.trans h.only.output, Nat.le_trans h.only.size hg.size, fun b hb hc => (hk b hb).trans (h.only.block b hb hc)⟩, ho, h.o1, h.o3⟩
theorem FcAt.lt (h : FcAt W B F v f) : F < W.heap.size := (Array.getElem?_eq_some_iff.1 h.1).1
theorem FcAt.call (h : FcAt W B F v f) (hon : Only c W W') (hc : c < B) : FcAt W' B F v f := ⟨(hon.block F h.lt (by have := h.2.1; omega)).trans h.1, h.2⟩
theorem FcAt.cells (h : FcAt W B F v f) : W.cell? ⟨F, 0, none⟩ = some (.int .i64 f.var) ∧ W.cell? ⟨F, 1, none⟩ = some (.bool f.loc.slot) ∧ W.cell? ⟨F, 2, none⟩ = some (.int .i64 f.loc.n) ∧ W.frozen? ⟨F, 0, none⟩ = false ∧ W.frozen? ⟨F, 1, none⟩ = false ∧ W.frozen? ⟨F, 2, none⟩ = false ∧ F < W.heap.size := by
 obtain ⟨a, b, d⟩ := cells3 h.1
 exact ⟨a, b, d, by simp [World.frozen?, h.1], by simp [World.frozen?, h.1], by simp [World.frozen?, h.1], h.lt⟩
theorem FcAt.ext (h : FcAt W B F v f) (u : Ext) : FcAt (W.ext u) B F v f := ⟨by rw [ext_block W u F h.lt]; exact h.1, h.2⟩
theorem FcAt.alloc (h : FcAt W B F v f) (o : Obj) : FcAt (W.alloc o) B F v f := ⟨by rw [Below.heap_alloc W o F h.lt]; exact h.1, h.2⟩
end
def FactsPd (S : Nat → Prop) (c : Nat) (r : List Fact × Cur) (w : World) (e : Ending) (w' : World) : Prop :=
 ∃ A n k, e = .returned (.slice A n k) ∧ OwnL w' w.heap.size 42 (fun _ => False) (.slice A n k) r.1 ∧ DocAt w' S c r.2 ∧ Only c w w'
set_option maxRecDepth 100000 in
set_option maxHeartbeats 16000000 in
theorem dfacts28_any (w : World) (S : Nat → Prop) (c : Nat) (s : Cur) (h : DocAt w S c s) (hl : leftC s ≤ 1099511627770) : Calls Tryz.prog 39 #[.pointer (some ⟨c, 0, none⟩)] w (FactsPd S c (factsC s) w) := by
 obtain ⟨i0, hi, hz, hz1, hz2⟩ := info_parts info_Fact28
 have HI0 := hide hi; have HZ := hide hz; have HZ1 := hide hz1; have HZ2 := hide hz2
 clear hi hz hz1 hz2
 have hlt := h.lt
 obtain ⟨S1, hS1⟩ : ∃ S1 : Nat → Prop, S1 = fun b => S b ∧ b < w.heap.size := ⟨_, rfl⟩
 have HS1 := hide hS1; have HNS := hide h.nS
 have hat0 : DocAt w S1 c s := h.moreS (fun b hb hS => by rw [hS1]; exact ⟨hS, hb⟩) (by rw [hS1]; exact fun e => h.nS e.1)
 have HT0 := hide (show DRt w w c S1 (.slice none 0 0) [] s from ⟨hat0, Only.refl c w, OwnL.nil_ _ _ _ _, hlt, fun b hb => by rw [hS1] at hb; exact hb.2⟩)
 obtain ⟨b0, hb0⟩ : ∃ b, endsC s = b := ⟨_, rfl⟩
 obtain ⟨X, hX⟩ : ∃ X, factsL (([], !b0), s) = X := ⟨_, rfl⟩
 have hfs : factsC s = (X.1.1, endC X.2) := by unfold factsC; simp only; rw [hb0, hX]
 rw [hfs]
 have HX := hide hX
 have HLL := hide hl
 have HEN := hide (show Calls Tryz.prog 89 #[.pointer (some ⟨c, 0, none⟩)] w (Ret (.bool b0) w) from hb0 ▸ dEnds h)
 clear h hat0 hS1 hfs hX hl hb0 hlt
 go_enter Tryz.func39, Tryz.ntmps39
 go_wp2_with (first | (go_at_call 89; (with_reducible refine HEN.out.mono ?_); rintro e w' ⟨rfl, rfl⟩))
 clear HEN
 go_loopw [3, 4] (fun v mo wr => ∃ (A : Option Addr) (n k : Nat) (l : List Fact) (s' : Cur) (b : Bool), v = .slice A n k ∧ mo = .bool b ∧ l.length = n ∧ DRt w wr c S1 (.slice A n k) l s' ∧ factsL ((l, b), s') = X ∧ n + leftC s' + (if b = true then 1 else 0) ≤ 1099511627771 ∧ (b = true → n ≤ 600)) (fun _ mo wr => leftM c wr + moreV mo)
 case atStart => exact ⟨none, 0, 0, [], s, !b0, rfl, rfl, rfl, HT0.out, HX.out, by have := HLL.out; split <;> omega, fun _ => by omega⟩
 case round =>
  obtain ⟨A, n, k, l, s', b, rfl, rfl, hn, ht, hx, hll, h600⟩ := hrel
  have HT := hide ht; have HXQ := hide hx; have HN := hide hn
  have HLX := hide hll
  have HLE := hide ht.cur.leftM_
  clear ht hx hn hll HT0
  cases b with
  | false =>
   have HE := hide (show X = ((l, false), s') from by rw [← HXQ.out]; exact factsL_stop rfl)
   have HED := hide (dEnd HT.out.cur)
   clear h600
   go_wp2_with (first | (go_at_call 90; (with_reducible refine HED.out.mono ?_); rintro e V6 ⟨rfl, hat, hon⟩; have HT9 := hide (HT.out.call hon hat); clear hat hon))
   go_ret
   rw [HE.out]
   exact ⟨A, n, k, rfl, HT9.out.own, HT9.out.cur.moreS (fun b _ h => by rw [HS1.out] at h; exact h.1) HNS.out, HT9.out.only⟩
  | true =>
   have hn600 : n ≤ 600 := h600 rfl
   have HLZ := hide (show n + leftC s' + 1 ≤ 1099511627771 from by have := HLX.out; simpa using this)
   clear HLX h600
   obtain ⟨s1, hs1⟩ : ∃ x, unlessC (decide (n < 600)) 3 s' = x := ⟨_, rfl⟩
   obtain ⟨vr, hvr⟩ : ∃ x, varW (peekC s1) = x := ⟨_, rfl⟩
   obtain ⟨s2, hs2⟩ : ∃ x, unlessC (vr != 0) 7 s1 = x := ⟨_, rfl⟩
   obtain ⟨s4, hs4⟩ : ∃ x, markC [tEq] (nameC s2).2 = x := ⟨_, rfl⟩
   obtain ⟨⟨sl, nn⟩, hlc⟩ : ∃ x, (placeW (peekC s4)).getD ⟨false, 0⟩ = x := ⟨_, rfl⟩
   obtain ⟨is, his⟩ : ∃ x, (placeW (peekC s4)).isSome = x := ⟨_, rfl⟩
   obtain ⟨ok, hok⟩ : ∃ x, (is && lastOk l ⟨vr, ⟨sl, nn⟩⟩) = x := ⟨_, rfl⟩
   obtain ⟨s5, hs5⟩ : ∃ x, unlessC ok 7 s4 = x := ⟨_, rfl⟩
   obtain ⟨s6, hs6⟩ : ∃ x, (nameC s5).2 = x := ⟨_, rfl⟩
   have hq : factC l s' = (⟨vr, ⟨sl, nn⟩⟩, s6) := by
    unfold factC
    simp only
    rw [HN.out, hs1, hvr, hs2, hs4, hlc, his, hok, hs5, hs6]
   obtain ⟨b2, hb2⟩ : ∃ b, isC (.mk tComma) s6 = b := ⟨_, rfl⟩
   have hgo : factG ((l, true), s') = some ((l ++ [⟨vr, ⟨sl, nn⟩⟩], b2), overC b2 s6) := by
    unfold factG
    rw [if_pos rfl]
    simp only
    rw [hq, hb2]
   have HGO := hide (show factsL ((l ++ [⟨vr, ⟨sl, nn⟩⟩], b2), overC b2 s6) = X from by rw [← HXQ.out, factsL_go hgo])
   have hdec := factG_dec _ _ hgo
   have HDEC := hide (show leftC (overC b2 s6) + (if b2 = true then 1 else 0) < leftC s' + 1 from by unfold factM at hdec; simpa using hdec)
   have HQI := hide (show InI vr ∧ InI nn from by have h := factC_in l s'; rw [hq] at h; exact h)
   have HNX := hide (show b2 = true → n + 1 ≤ 600 from fun hb => by
    rcases Nat.lt_or_ge n 600 with h | h
    ·omega
    ·exfalso
     have e0 : n = 600 := by omega
     have h1 : leftC s1 = 0 := by rw [← hs1, e0]; exact left_fail (by decide) s'
     have h2 := left_unless (x := 7) (by decide) (vr != 0) s1
     have h3 := left_name s2
     have h4 := left_mark [tEq] (nameC s2).2
     have h5 := left_unless (x := 7) (by decide) ok s4
     have h6 := left_name s5
     have h7 := left_is (hb2.trans hb)
     rw [hs2] at h2; rw [hs4] at h4; rw [hs5] at h5; rw [hs6] at h6
     omega)
   have HS1Q := hide hs1; have HVR := hide hvr; have HS2Q := hide hs2; have HS4Q := hide hs4; have HLC := hide hlc; have HIS := hide his; have HOK := hide hok; have HS5Q := hide hs5; have HS6Q := hide hs6; have HB2 := hide hb2
   clear hgo hdec hq hb2 hs1 hvr hs2 hs4 hlc his hok hs5 hs6
   go_upto_if 14 with (fail)
   go_cut [] from 12 to 16 (fun wc => DRt w wc c S1 (.slice A n k) l s1)
   case first =>
    by_cases hn2 : n = 600
    ·have hnb : ((n : Int) == 600) = true := by simp; omega
     have HFL := hide (show Calls Tryz.prog 37 #[.pointer (some ⟨c, 0, none⟩), .int .i64 3] wr (DocP S1 c wr s1 (.tuple #[])) from by have h := dFail HT.out.cur 3; rw [← HS1Q.out, hn2]; exact h)
     clear hn2
     go_wp2_with (first | (go_at_call 37; (with_reducible refine HFL.out.mono ?_); rintro e V6 ⟨rfl, hat, hon⟩; have HT9 := hide (HT.out.call hon hat); clear hat hon))
     go_meet
     exact HT9.out
    ·have hnb : ((n : Int) == 600) = false := by simp; omega
     have HT9 := hide (show DRt w wr c S1 (.slice A n k) l s1 from by have h := HT.out; rw [← HS1Q.out, decide_eq_true (by omega)]; exact h)
     clear hn2
     go_wp2_with fail
     go_meet
     exact HT9.out
   case rest =>
    have HT1 := hide hcut
    obtain ⟨Wa, hWa⟩ : ∃ W, W = wc := ⟨_, rfl⟩
    subst hWa
    clear hcut HT
    have HPK := hide (dPeek HT1.out.cur)
    have HVA := hide (show Calls Tryz.prog 91 #[.string (peekC s1)] Wa (Ret (.int .i64 vr) Wa) from HVR.out ▸ variable28_any (peekC s1) Wa HT1.out.cur.peek_size)
    obtain ⟨F, hF⟩ : ∃ F, Wa.heap.size = F := ⟨_, rfl⟩
    obtain ⟨Wb, hWb⟩ : ∃ W, Wa.alloc (.cells #[.int .i64 vr, .bool false, .int .i64 0] 42) = W := ⟨_, rfl⟩
    have HT2 := hide (show DRt w Wb c S1 (.slice A n k) l s1 from by rw [← hWb]; exact HT1.out.alloc _)
    have HF2 := hide (show FcAt Wb w.heap.size F (.slice A n k) ⟨vr, ⟨false, 0⟩⟩ from ⟨by rw [← hWb, ← hF]; exact heap_alloc_new Wa _, by rw [← hF]; exact HT1.out.only.size, by rw [← hF]; intro e; have := (HT1.out.own.below_ _ e).2; omega⟩)
    have HWB := hide hWb; have HFQ := hide hF
    clear hWb hF
    go_upto_if 23 with (first | (go_at_call 92; (with_reducible refine HPK.out.mono ?_); rintro e _ ⟨rfl, rfl⟩) | (go_at_call 91; (with_reducible refine HVA.out.mono ?_); rintro e _ ⟨rfl, rfl⟩))
    try rw [HWB.out]
    try rw [HFQ.out]
    clear HPK HVA HT1
    go_cut [] from 17 to 25 (fun wc => DRt w wc c S1 (.slice A n k) l s2 ∧ FcAt wc w.heap.size F (.slice A n k) ⟨vr, ⟨false, 0⟩⟩)
    case first =>
     by_cases hv0 : vr = 0
     ·have hvb : (vr == 0) = true := by simp [hv0]
      have HFL := hide (show Calls Tryz.prog 37 #[.pointer (some ⟨c, 0, none⟩), .int .i64 7] Wb (DocP S1 c Wb s2 (.tuple #[])) from by have h := dFail HT2.out.cur 7; rw [← HS2Q.out, hv0]; exact h)
      clear hv0
      go_wp2_with (first | (go_at_call 37; (with_reducible refine HFL.out.mono ?_); rintro e V6 ⟨rfl, hat, hon⟩; have HT9 := hide (HT2.out.call hon hat); have HF9 := hide (HF2.out.call hon HT2.out.o1); clear hat hon))
      go_meet
      exact ⟨HT9.out, HF9.out⟩
     ·have hvb : (vr == 0) = false := by simp [hv0]
      have HT9 := hide (show DRt w Wb c S1 (.slice A n k) l s2 from by have h := HT2.out; rw [← HS2Q.out, show unlessC (vr != 0) 7 s1 = s1 from by unfold unlessC; rw [if_pos (by simpa using hv0)]]; exact h)
      clear hv0
      go_wp2_with fail
      go_meet
      exact ⟨HT9.out, HF2.out⟩
    case rest =>
     obtain ⟨hcut, hcut2⟩ := hcut
     have HT3 := hide hcut
     have HF3 := hide hcut2
     obtain ⟨Wc, hWc⟩ : ∃ W, W = wc := ⟨_, rfl⟩
     subst hWc
     clear hcut hcut2 HT2 HF2 HWB
     have HNA := hide (dName HT3.out.cur)
     go_wp2_with (first | (go_at_call 93; (with_reducible refine HNA.out.mono ?_); rintro e V4 ⟨rfl, hat, hon⟩; have HT4 := hide (HT3.out.call hon hat); have HF4 := hide (HF3.out.call hon HT3.out.o1); clear hat hon; refine Hd.out ?_))
     clear HT3 HF3 HNA
     have HMK := hide (show Calls Tryz.prog 88 #[.pointer (some ⟨c, 0, none⟩), .slice (some ⟨V4.heap.size, 0, none⟩) 1 1] (V4.alloc (.cells #[.string ⟨#[61]⟩] 9)) (DocP S1 c (V4.alloc (.cells #[.string ⟨#[61]⟩] 9)) s4 (.tuple #[])) from by
      have h := dMark (HT4.out.alloc (.cells #[.string ⟨#[61]⟩] 9)).cur (ts := [tEq]) (Sl.lit (S := fun _ => False) (S' := fun b => c < b) (us := [.string ⟨#[61]⟩]) rfl ⟨[.string ⟨#[61]⟩], [], rfl, ⟨rfl, by unfold maxLen; decide⟩, rfl⟩ rfl (by decide) (fun _ h => h.elim) (by have := HT4.out.o1; have := HT4.out.only.size; omega)) (by show ¬ c < c; omega)
      rw [HS4Q.out] at h
      exact h)
     refine hide ?_
     go_wp2_with (first | (go_at_call 88; (with_reducible refine HMK.out.mono ?_); rintro e V5 ⟨rfl, hat, hon⟩; have HT5 := hide ((HT4.out.alloc (.cells #[.string ⟨#[61]⟩] 9)).call hon hat); have HF5 := hide ((HF4.out.alloc (.cells #[.string ⟨#[61]⟩] 9)).call hon HT4.out.o1); clear hat hon; refine Hd.out ?_))
     clear HT4 HF4 HMK
     have HPK := hide (dPeek HT5.out.cur)
     have HPL := hide (show Calls Tryz.prog 94 #[.string (peekC s4)] V5 (RetX (.tuple #[.agg #[.bool sl, .int .i64 nn], .bool is]) V5) from by have h := place28_any (peekC s4) V5 HT5.out.cur.peek_size; rw [HLC.out, HIS.out] at h; exact h)
     refine hide ?_
     go_wp2_with (first | (go_at_call 92; (with_reducible refine HPK.out.mono ?_); rintro e _ ⟨rfl, rfl⟩) | (go_at_call 94; (with_reducible refine HPL.out.mono ?_); rintro e V9 ⟨rfl, u9, hu9⟩; have HT6 := hide (show DRt w V9 c S1 (.slice A n k) l s4 from hu9 ▸ HT5.out.ext u9); have HF6 := hide (show FcAt V9 w.heap.size F (.slice A n k) ⟨vr, ⟨false, 0⟩⟩ from hu9 ▸ HF5.out.ext u9); clear hu9; refine Hd.out ?_))
     clear HT5 HF5 HPK HPL
     obtain ⟨m0, m1, m2, f0, f1, f2, ml⟩ := HF6.out.cells
     dsimp only at m0 m1 m2
     obtain ⟨We, hWe⟩ : ∃ W, ((V9.setCell ⟨F, 1, none⟩ (.bool sl)).setCell ⟨F, 2, none⟩ (.int .i64 nn)).alloc (.cells #[.bool sl, .int .i64 nn] 40) = W := ⟨_, rfl⟩
     have HT7 := hide (show DRt w We c S1 (.slice A n k) l s4 from by rw [← hWe]; exact ((HT6.out.set HF6.out.2.1 HF6.out.2.2 1 _).set HF6.out.2.1 HF6.out.2.2 2 _).alloc _)
     have HF7 := hide (show FcAt We w.heap.size F (.slice A n k) ⟨vr, ⟨sl, nn⟩⟩ from ⟨by rw [← hWe, Below.heap_alloc _ _ _ (by simpa using HF6.out.lt), row_setB (row_setB HF6.out.1 1 _) 2 _]; rfl, HF6.out.2⟩)
     have HWE := hide hWe
     clear hWe
     refine hide ?_
     go_upto_region 13 with (fail)
     try rw [HWE.out]
     clear HT6 HF6 HWE m0 m1 m2 f0 f1 f2 ml
     obtain ⟨m0, m1, m2, f0, f1, f2, ml⟩ := HF7.out.cells
     dsimp only at m0 m1 m2
     go_cut [56] from 39 to 56 (fun b wc => b = .bool (!ok) ∧ ∃ u : Ext, wc = We.ext u)
     case first =>
      cases is with
      | false =>
       have hok : ok = false := by rw [← HOK.out]; rfl
       refine wp_region_flow_ext [] [] (by kernel_rfl) rfl (by kernel_rfl) ?_
       repeat (refine flow_known (by kernel_rfl) (fun K hK => ?_); go_simp; (first | (refine hK _ ?_; clear hK K) | (refine ⟨undef, (by intros; rw [if_neg (by decide)]), hK _ ?_⟩; clear hK K) | (apply Exists.intro; refine ⟨fun _ => ?_, hK _ ?_⟩; (fail); clear hK K)))
       refine flow_done [] (by kernel_rfl) ?_
       intro uf
       simp only [List.nil_append, List.cons_append, endH_f, endH_t, endH_nil]
       go_simp
       go_wp2_with fail
       go_meet
       exact ⟨by rw [hok]; rfl, uf, rfl⟩
      | true =>
       by_cases hn0 : n = 0
       ·have hl0 : l = [] := List.eq_nil_of_length_eq_zero (by rw [HN.out, hn0])
        have hok : ok = true := by rw [← HOK.out, hl0]; rfl
        have hz2 : decide (0 < n) = false := by simp; omega
        clear hl0 hn0
        refine wp_region_flow_ext [] [] (by kernel_rfl) rfl (by kernel_rfl) ?_
        repeat (refine flow_known (by kernel_rfl) (fun K hK => ?_); go_simp; (first | (refine hK _ ?_; clear hK K) | (refine ⟨undef, (by intros; rw [if_neg (by decide)]), hK _ ?_⟩; clear hK K) | (apply Exists.intro; refine ⟨fun _ => ?_, hK _ ?_⟩; (fail); clear hK K)))
        refine flow_done [] (by kernel_rfl) ?_
        intro uf
        simp only [List.nil_append, List.cons_append, endH_f, endH_t, endH_nil]
        go_simp
        go_wp2_with fail
        go_meet
        exact ⟨by rw [hok]; rfl, uf, rfl⟩
       ·obtain ⟨m, hm⟩ : ∃ m, n - 1 = m := ⟨_, rfl⟩
        have hmn : m < n := by omega
        obtain ⟨bq, oq, x, hAq, hbq, hxq, hxi1, hxi2, d0, d1, d2⟩ := at_Fact (HT7.out.own.sl (S' := fun _ => True) fun _ _ _ => trivial) hmn
        subst hAq
        have hz2 : decide (0 < n) = true := by simp; omega
        have hm1 : (n : Int) - 1 = (m : Int) := by omega
        have hmi : (m : Int) < n := by omega
        have hmw : IntKind.i64.wrap (m : Int) = (m : Int) := IntWalk.i64_in _ (by omega)
        obtain ⟨bh, hbh⟩ : ∃ b, aheadF x ⟨vr, ⟨sl, nn⟩⟩ = b := ⟨_, rfl⟩
        have hok : ok = bh := by
         rw [← HOK.out, ← hbh]
         unfold lastOk
         rw [List.getLast?_eq_getElem?, HN.out, hm, hxq]
         rfl
        have HAH := hide (fun (W : World) => show Calls Tryz.prog 20 #[.agg #[.int .i64 x.var, .bool x.loc.slot, .int .i64 x.loc.n], .agg #[.int .i64 vr, .bool sl, .int .i64 nn]] W (RetX (.bool bh) W) from hbh ▸ dahead28_any W x ⟨vr, ⟨sl, nn⟩⟩)
        clear hxq hm hbh hxi1 hxi2
        refine wp_region_flow_ext [] [] (by kernel_rfl) rfl (by kernel_rfl) ?_
        repeat (refine flow_known (by kernel_rfl) (fun K hK => ?_); go_simp; (first | (refine hK _ ?_; clear hK K) | (refine ⟨undef, (by intros; rw [if_neg (by decide)]), hK _ ?_⟩; clear hK K) | (apply Exists.intro; refine ⟨fun _ => ?_, hK _ ?_⟩; ((go_at_call 20; with_reducible exact HAH.out _)); clear hK K)))
        refine flow_done [] (by kernel_rfl) ?_
        intro uf
        simp only [List.nil_append, List.cons_append, endH_f, endH_t, endH_nil]
        go_simp
        go_wp2_with fail
        go_meet
        exact ⟨by rw [hok], uf, rfl⟩
     case rest =>
      obtain ⟨rfl, u9, hu9⟩ := hcut
      have HT8 := hide (show DRt w wc c S1 (.slice A n k) l s4 from hu9 ▸ HT7.out.ext u9)
      have HF8 := hide (show FcAt wc w.heap.size F (.slice A n k) ⟨vr, ⟨sl, nn⟩⟩ from hu9 ▸ HF7.out.ext u9)
      obtain ⟨Wf, hWf⟩ : ∃ W, W = wc := ⟨_, rfl⟩
      subst hWf
      clear hu9 HT7 HF7 m0 m1 m2 f0 f1 f2 ml
      go_upto_if 56 with (fail)
      go_cut [] from 39 to 58 (fun wc => DRt w wc c S1 (.slice A n k) l s5 ∧ FcAt wc w.heap.size F (.slice A n k) ⟨vr, ⟨sl, nn⟩⟩)
      case first =>
       cases ok with
       | false =>
        have HFL := hide (show Calls Tryz.prog 37 #[.pointer (some ⟨c, 0, none⟩), .int .i64 7] Wf (DocP S1 c Wf s5 (.tuple #[])) from by have h := dFail HT8.out.cur 7; rw [← HS5Q.out]; exact h)
        go_wp2_with (first | (go_at_call 37; (with_reducible refine HFL.out.mono ?_); rintro e V6 ⟨rfl, hat, hon⟩; have HT9 := hide (HT8.out.call hon hat); have HF9 := hide (HF8.out.call hon HT8.out.o1); clear hat hon))
        go_meet
        exact ⟨HT9.out, HF9.out⟩
       | true =>
        have HT9 := hide (show DRt w Wf c S1 (.slice A n k) l s5 from by have h := HT8.out; rw [← HS5Q.out]; exact h)
        go_wp2_with fail
        go_meet
        exact ⟨HT9.out, HF8.out⟩
      case rest =>
       obtain ⟨hcut, hcut2⟩ := hcut
       have HT9 := hide hcut
       have HF9 := hide hcut2
       obtain ⟨Wg, hWg⟩ : ∃ W, W = wc := ⟨_, rfl⟩
       subst hWg
       clear hcut hcut2 HT8 HF8
       have HNA := hide (dName HT9.out.cur)
       go_wp2_with (first | (go_at_call 93; (with_reducible refine HNA.out.mono ?_); rintro e V4 ⟨rfl, hat, hon⟩; have HT10 := hide (show DRt w V4 c S1 (.slice A n k) l s6 from HS6Q.out ▸ HT9.out.call hon hat); have HF10 := hide (HF9.out.call hon HT9.out.o1); clear hat hon; refine Hd.out ?_))
       clear HT9 HF9 HNA
       obtain ⟨m0, m1, m2, f0, f1, f2, ml⟩ := HF10.out.cells
       dsimp only at m0 m1 m2
       refine hide ?_
       go_wp2_with (first
        | (at_builtin; refine wpList_push (α := Fact) V4 [.int .i64 vr, .bool sl, .int .i64 nn] 42 rfl (.tmp 61) (.tmp 63) 37 rfl w.heap.size 42 i0 _ 24 Tryz.underlying37 HI0.out HZ.out HZ1.out HZ2.out rfl (by decide) (fun _ => False) (fun _ => False) (.slice A n k) l ⟨vr, ⟨sl, nn⟩⟩ rfl HT10.out.own V4.heap.size rfl rfl (Fact.mk_ HQI.out.1 HQI.out.2) (fun _ h => h) (fun _ _ h => h) (fun _ h => h.elim) (by have := HN.out; omega) (by have := HN.out; omega) HT10.out.only.size ?_; intro v' W2 ho1 hgr h5; have HT11 := hide ((HT10.out.alloc (.cells #[.int .i64 vr, .bool sl, .int .i64 nn] 42)).grown hgr (fun g e => (HT10.out.own.below_ g e).1) ho1); have HIQ := hide (show Calls Tryz.prog 95 #[.pointer (some ⟨c, 0, none⟩), .string ⟨#[44]⟩] W2 (DocP S1 c W2 (overC b2 s6) (.bool b2)) from (by have h := dIs HT11.out.cur tComma; rw [HB2.out] at h; exact h)); clear ho1 hgr h5)
        | (go_at_call 95; (with_reducible refine HIQ.out.mono ?_); rintro e V7 ⟨rfl, hat, hon⟩; have HT12 := hide (HT11.out.call hon hat); clear hat hon))
       obtain ⟨A', k', rfl⟩ := HT12.out.own.form
       have hl1 : (l ++ [(⟨vr, ⟨sl, nn⟩⟩ : Fact)]).length = n + 1 := by rw [List.length_append, HN.out]; rfl
       rw [hl1] at HT12 ⊢
       have HL12 := hide HT12.out.cur.leftM_
       clear m0 m1 m2 f0 f1 f2 ml
       go_roundw
       case rel => exact ⟨A', n + 1, k', l ++ [(⟨vr, ⟨sl, nn⟩⟩ : Fact)], overC b2 s6, b2, rfl, rfl, hl1, HT12.out, HGO.out, by have h1 := HDEC.out; have h2 := HLZ.out; revert h1; cases b2 <;> simp <;> omega, HNX.out⟩
       case measure =>
        rw [HL12.out, HLE.out]
        have := HDEC.out
        cases b2
        ·show leftC _ + 0 < leftC s' + 1; simpa using this
        ·show leftC _ + 1 < leftC s' + 1; simpa using this
end Go.Proofs.YtppkanniefignaaGreatDoor
namespace Go.Proofs.YtppkanniefignaaGreatDoor
open Go.RowKit Go.Maps
structure DB (w0 W : World) (Z M c : Nat) (S : Nat → Prop) (vt vf : Value) (s : Cur) : Prop where
 zro : W.heap[Z]? = some (.cells #[.slice none 0 0, .slice none 0 0] 26 (0, 0))
 row : W.heap[M]? = some (.cells #[vt, vf] 26 (0, 0))
 cur : DocAt W S c s
 low : Below Z w0 W
 o1 : Z < c
 o2 : c < M
 o4 : ∀ b, S b → Z < b ∧ b < M
section
variable {w0 W W' : World} {Z M c D D' : Nat} {S St St' Sf Sf' : Nat → Prop} {vt vt' vf vf' : Value} {lt lt' : List TileR} {lf lf' : List (RowR Fact)} {s s' : Cur}
theorem DB.zl (h : DB w0 W Z M c S vt vf s) : Z < W.heap.size := (Array.getElem?_eq_some_iff.1 h.zro).1
theorem DB.ml (h : DB w0 W Z M c S vt vf s) : M < W.heap.size := (Array.getElem?_eq_some_iff.1 h.row).1
theorem DB.call (h : DB w0 W Z M c S vt vf s) (hon : Only c W W') (hat : DocAt W' S c s') : DB w0 W' Z M c S vt vf s' where
 zro := (hon.block Z h.zl (by have := h.o1; omega)).trans h.zro
 row := (hon.block M h.ml (by have := h.o2; omega)).trans h.row
 cur := hat
 low := h.low.trans (hon.below (by have := h.o1; omega) (by have := h.zl; omega))
 o1 := h.o1
 o2 := h.o2
 o4 := h.o4
theorem DB.set (h : DB w0 W Z M c S vt vf s) {j : Nat} {x : Value} (hr : (#[vt, vf] : Array Value).setIfInBounds j x = #[vt', vf']) : DB w0 (W.setCell ⟨M, j, none⟩ x) Z M c S vt' vf' s where
 zro := (Below.heap_setCell W ⟨M, j, none⟩ x Z (by show Z ≠ M; have := h.o1; have := h.o2; omega)).trans h.zro
 row := by rw [row_setB h.row, hr]
 cur := h.cur.keep (by simp) (Below.heap_setCell W ⟨M, j, none⟩ x c (by show c ≠ M; have := h.o2; omega)) fun b hS _ => Below.heap_setCell W ⟨M, j, none⟩ x b (by show b ≠ M; have := (h.o4 b hS).2; omega)
 low := h.low.setCell (p := ⟨M, j, none⟩) (by show Z ≤ M; have := h.o1; have := h.o2; omega) x
 o1 := h.o1
 o2 := h.o2
 o4 := h.o4
theorem DB.grown {row : Option Nat} (h : DB w0 W Z M c S vt vf s) (hg : W.grownBy W' row) (hr : ∀ g, row = some g → M < g) : DB w0 W' Z M c S vt vf s := by
 have hk : ∀ b, b < W.heap.size → b ≤ M → W'.heap[b]? = W.heap[b]? := fun b hb hm => hg.block b hb (fun e => by have := hr b e.symm; omega)
 have o1 := h.o1; have o2 := h.o2; have rl := h.ml
 have hb0 : Below (M + 1) W W' := (Below.refl _ _).grown hg (by omega) (fun r e => hr r e)
 exact ⟨(hk Z h.zl (by omega)).trans h.zro, (hk M rl (Nat.le_refl _)).trans h.row, h.cur.keep hg.size (hk c (by omega) (by omega)) (fun b hS hb => hk b hb (by have := (h.o4 b hS).2; omega)), h.low.trans (hb0.mono (by omega)), o1, o2, h.o4⟩
structure DAt (w0 W : World) (Z M c D : Nat) (S St Sf : Nat → Prop) (vt vf : Value) (lt : List TileR) (lf : List (RowR Fact)) (s : Cur) : Prop where
 cb : DB w0 W Z M c S vt vf s
 ot : OwnL W (M + 1) 35 St vt lt
 of : OwnL W (M + 1) 37 Sf vf lf
 st : ∀ b, St b → M < b ∧ b < D
 sf : ∀ b, Sf b → M < b ∧ D ≤ b ∧ b < W.heap.size
 tb : ∀ b, vt.ownBlock = some b → b < D
 fb : ∀ b, vf.ownBlock = some b → D ≤ b
 d : D ≤ W.heap.size
theorem DAt.call (h : DAt w0 W Z M c D S St Sf vt vf lt lf s) (hon : Only c W W') (hat : DocAt W' S c s') : DAt w0 W' Z M c D S St Sf vt vf lt lf s' where
 cb := h.cb.call hon hat
 ot := h.ot.keep hon.size (fun b hb hl => hon.block b hl (by have := (h.st b hb).1; have := h.cb.o2; omega)) fun g hg => hon.block g (h.ot.below_ g hg).2 (by have := (h.ot.below_ g hg).1; have := h.cb.o2; omega)
 of := h.of.keep hon.size (fun b hb hl => hon.block b hl (by have := (h.sf b hb).1; have := h.cb.o2; omega)) fun g hg => hon.block g (h.of.below_ g hg).2 (by have := (h.of.below_ g hg).1; have := h.cb.o2; omega)
 st := h.st
 sf := fun b hb => ⟨(h.sf b hb).1, (h.sf b hb).2.1, Nat.lt_of_lt_of_le (h.sf b hb).2.2 hon.size⟩
 tb := h.tb
 fb := h.fb
 d := Nat.le_trans h.d hon.size
theorem DAt.ext (h : DAt w0 W Z M c D S St Sf vt vf lt lf s) (u : Ext) : DAt w0 (W.ext u) Z M c D S St Sf vt vf lt lf s := h.call ((Only.refl c W).ext u) (h.cb.cur.ext u)
theorem DAt.push0 (h : DAt w0 W Z M c D S St (fun _ => False) vt (.slice none 0 0) lt [] s) (hg : W.grownBy W' vt.ownBlock) (ho : OwnL W' (M + 1) 35 St' vt' lt') (st : ∀ b, St' b → M < b ∧ b < W'.heap.size) : DAt w0 (W'.setCell ⟨M, 0, none⟩ vt') Z M c W'.heap.size S St' (fun _ => False) vt' (.slice none 0 0) lt' [] s where
 cb := (h.cb.grown hg (fun g e => (h.ot.below_ g e).1)).set rfl
 ot := ho.setCell (fun e => by have h5 : M < M := (st _ e).1; omega) (fun e => by have h5 : M + 1 ≤ M := (ho.below_ _ e).1; omega) _
 of := OwnL.nil_ _ _ _ _
 st := st
 sf := fun _ h => h.elim
 tb := fun b hb => (ho.below_ b hb).2
 fb := fun _ h => by simp [Value.ownBlock] at h
 d := by simp
theorem DAt.push1 (h : DAt w0 W Z M c D S St Sf vt vf lt lf s) (hg : W.grownBy W' vf.ownBlock) (ho : OwnL W' (M + 1) 37 Sf' vf' lf') (sf : ∀ b, Sf' b → M < b ∧ D ≤ b ∧ b < W'.heap.size) (fb : ∀ b, vf'.ownBlock = some b → D ≤ b) : DAt w0 (W'.setCell ⟨M, 1, none⟩ vf') Z M c D S St Sf' vt vf' lt lf' s where
 cb := (h.cb.grown hg (fun g e => (h.of.below_ g e).1)).set rfl
 ot := (h.ot.keep hg.size (fun b hb hl => hg.block b hl (fun e => by have := h.fb b e.symm; have := (h.st b hb).2; omega)) fun g hgt => hg.block g (h.ot.below_ g hgt).2 (fun e => by have := h.fb g e.symm; have := h.tb g hgt; omega)).setCell (fun e => by have h5 : M < M := (h.st _ e).1; omega) (fun e => by have h5 : M + 1 ≤ M := (h.ot.below_ _ e).1; omega) _
 of := ho.setCell (fun e => by have h5 : M < M := (sf _ e).1; omega) (fun e => by have h5 : M + 1 ≤ M := (ho.below_ _ e).1; omega) _
 st := h.st
 sf := fun b hb => by have := sf b hb; simpa using this
 tb := h.tb
 fb := fb
 d := by have := h.d; have := hg.size; simp; omega
theorem DB.cells (h : DB w0 W Z M c S vt vf s) : W.cell? ⟨M, 0, none⟩ = some vt ∧ W.cell? ⟨M, 1, none⟩ = some vf ∧ W.frozen? ⟨M, 0, none⟩ = false ∧ W.frozen? ⟨M, 1, none⟩ = false ∧ M < W.heap.size :=
 ⟨cell_of_row W M _ _ _ (0, 0) h.row, cell_of_row W M _ _ _ (0, 0) h.row, by simp [World.frozen?, h.row], by simp [World.frozen?, h.row], h.ml⟩
theorem DB.zcells (h : DB w0 W Z M c S vt vf s) : W.cell? ⟨Z, 0, none⟩ = some (.slice none 0 0) ∧ W.cell? ⟨Z, 1, none⟩ = some (.slice none 0 0) ∧ W.frozen? ⟨Z, 0, none⟩ = false ∧ W.frozen? ⟨Z, 1, none⟩ = false ∧ Z < W.heap.size :=
 ⟨cell_of_row W Z _ _ _ (0, 0) h.zro, cell_of_row W Z _ _ _ (0, 0) h.zro, by simp [World.frozen?, h.zro], by simp [World.frozen?, h.zro], h.zl⟩
theorem DAt.fin (h : DAt w0 W Z M c D S St Sf vt vf lt lf s) (a b : Value) : ((W.setCell ⟨Z, 0, none⟩ a).setCell ⟨Z, 1, none⟩ b).heap[Z]? = some (.cells #[a, b] 26 (0, 0)) ∧ OwnL ((W.setCell ⟨Z, 0, none⟩ a).setCell ⟨Z, 1, none⟩ b) (M + 1) 35 St vt lt ∧ OwnL ((W.setCell ⟨Z, 0, none⟩ a).setCell ⟨Z, 1, none⟩ b) (M + 1) 37 Sf vf lf ∧ Below Z w0 ((W.setCell ⟨Z, 0, none⟩ a).setCell ⟨Z, 1, none⟩ b) ∧ ((W.setCell ⟨Z, 0, none⟩ a).setCell ⟨Z, 1, none⟩ b).heap.size = W.heap.size := by
 have o1 := h.cb.o1; have o2 := h.cb.o2
 have hb : ∀ k, k ≠ Z → ((W.setCell ⟨Z, 0, none⟩ a).setCell ⟨Z, 1, none⟩ b).heap[k]? = W.heap[k]? := fun k hk =>
  (Below.heap_setCell _ ⟨Z, 1, none⟩ b k hk).trans (Below.heap_setCell _ ⟨Z, 0, none⟩ a k hk)
 refine ⟨?_, ?_, ?_, ?_, by simp⟩
 ·rw [row_setB (row_setB h.cb.zro 0 a) 1 b]; rfl
 ·exact h.ot.keep (by simp) (fun k hS _ => hb k (by have := (h.st k hS).1; omega)) fun g hg => hb g (by have := (h.ot.below_ g hg).1; omega)
 ·exact h.of.keep (by simp) (fun k hS _ => hb k (by have := (h.sf k hS).1; omega)) fun g hg => hb g (by have := (h.of.below_ g hg).1; omega)
 ·exact (h.cb.low.setCell (p := ⟨Z, 0, none⟩) (Nat.le_refl _) a).setCell (p := ⟨Z, 1, none⟩) (Nat.le_refl _) b
end
def DTileI (S : Nat → Prop) (c B : Nat) (q : Tile × Cur) : Post := fun v w => ∃ A n k, v = .agg #[.int .i64 q.1.kind, .int .i64 q.1.parent, .slice A n k] ∧ OwnL w B 3 (fun _ => False) (.slice A n k) q.1.blocks ∧ DocAt w S c q.2
theorem DTileI.stable_ {F : World → Prop} {S : Nat → Prop} {c B : Nat} {q : Tile × Cur} {mem : Bool} (hm : mem = true) : stable F mem (DTileI S c B q) :=
 stable_mem hm fun _ w u ⟨A, n, k, hv, h1, h2⟩ => ⟨A, n, k, hv, h1.ext u, h2.ext u⟩
def DFactsI (S : Nat → Prop) (c B : Nat) (q : List Fact × Cur) : Post := fun v w => ∃ A n k, v = .slice A n k ∧ OwnL w B 42 (fun _ => False) (.slice A n k) q.1 ∧ DocAt w S c q.2
theorem DFactsI.stable_ {F : World → Prop} {S : Nat → Prop} {c B : Nat} {q : List Fact × Cur} {mem : Bool} (hm : mem = true) : stable F mem (DFactsI S c B q) :=
 stable_mem hm fun _ w u ⟨A, n, k, hv, h1, h2⟩ => ⟨A, n, k, hv, h1.ext u, h2.ext u⟩
def DTileL (S : Nat → Prop) (c B : Nat) (q : Tile × Cur) : Post := fun v w => ∃ g A n k, v = .slice (some ⟨g, 0, none⟩) 1 1 ∧ B ≤ g ∧ w.heap[g]? = some (.cells #[.int .i64 q.1.kind, .int .i64 q.1.parent, .slice A n k] 35 (0, 0)) ∧ OwnL w B 3 (fun _ => False) (.slice A n k) q.1.blocks ∧ DocAt w S c q.2
theorem DTileL.stable_ {F : World → Prop} {S : Nat → Prop} {c B : Nat} {q : Tile × Cur} {mem : Bool} (hm : mem = true) : stable F mem (DTileL S c B q) :=
 stable_mem hm fun _ w u ⟨g, A, n, k, hv, hg, h0, h1, h2⟩ => ⟨g, A, n, k, hv, hg, (by rw [ext_block w u g (Array.getElem?_eq_some_iff.1 h0).1]; exact h0), h1.ext u, h2.ext u⟩
def DFactsB (S : Nat → Prop) (c B : Nat) (q : List Fact × Cur) : Post := fun v w => ∃ g A n k, v = .slice (some ⟨g, 0, none⟩) 1 1 ∧ B ≤ g ∧ w.heap[g]? = some (.cells #[.slice A n k] 37 (0, 0)) ∧ OwnL w B 42 (fun _ => False) (.slice A n k) q.1 ∧ DocAt w S c q.2
theorem DFactsB.stable_ {F : World → Prop} {S : Nat → Prop} {c B : Nat} {q : List Fact × Cur} {mem : Bool} (hm : mem = true) : stable F mem (DFactsB S c B q) :=
 stable_mem hm fun _ w u ⟨g, A, n, k, hv, hg, h0, h1, h2⟩ => ⟨g, A, n, k, hv, hg, (by rw [ext_block w u g (Array.getElem?_eq_some_iff.1 h0).1]; exact h0), h1.ext u, h2.ext u⟩
end Go.Proofs.YtppkanniefignaaGreatDoor
