/- law28: walks: how great a certificate is; rows of facts that are lent, and kept. law28: walks: rows of facts that are lent, and kept. law28: walks: certificates that are lent, and kept. law28: walks: a certificate that was lent is found kept. -/
import Derived.Test.YtppkanniefignaaGreatDoorG25
import Derived.Test.YtppkanniefignaaGreatDoorG3
import Derived.Test.YtppkanniefignaaGreatDoorG19
set_option linter.unusedSimpArgs false
set_option linter.unusedVariables false
namespace Go.Proofs.YtppkanniefignaaGreatDoor
open Go.RowKit Go.Maps
def countC : Int → List Nat → Int
 | a, [] => a
 | a, l :: ls => if a ≤ 1500 then countC (a + 1 + l) ls else a
def certN (x : Cert) : Int := countC (countC 0 (x.tiles.map fun t => t.blocks.length)) (x.facts.map List.length)
theorem countC_ge : ∀ (ls : List Nat) (a : Int), a ≤ countC a ls
 | [], a => Int.le_refl a
 | l :: ls, a => by
  unfold countC
  split
  ·have := countC_ge ls (a + 1 + l); omega
  ·omega
theorem countC_over {a : Int} (h : ¬ a ≤ 1500) : ∀ ls, countC a ls = a
 | [] => rfl
 | l :: ls => if_neg h
theorem countC_le : ∀ (ls : List Nat) (a : Int), 0 ≤ a → countC a ls ≤ 1500 → a ≤ 1500 ∧ a + ls.length ≤ 1500 ∧ ∀ l ∈ ls, l ≤ 1500
 | [], a, h0, h => ⟨h, by simpa [countC] using h, fun _ h => (by cases h)⟩
 | l :: ls, a, h0, h => by
  by_cases hA : a ≤ 1500
  ·have e : countC a (l :: ls) = countC (a + 1 + l) ls := if_pos hA
   rw [e] at h
   obtain ⟨h1, h2, h3⟩ := countC_le ls (a + 1 + l) (by omega) h
   refine ⟨hA, by rw [List.length_cons]; omega, fun x hx => ?_⟩
   rcases List.mem_cons.1 hx with hx | hx
   ·subst hx; omega
   ·exact h3 x hx
  ·rw [countC_over hA] at h; exact absurd h hA
structure CertSm (x : Cert) : Prop where
 t : x.tiles.length ≤ 1500
 b : ∀ t ∈ x.tiles, t.blocks.length ≤ 1500
 f : x.facts.length ≤ 1500
 l : ∀ l ∈ x.facts, l.length ≤ 1500
theorem certN_sm {x : Cert} (h : certN x ≤ 1500) : CertSm x := by
 unfold certN at h
 have h0 := countC_ge (x.tiles.map fun t => t.blocks.length) 0
 obtain ⟨a1, a2, a3⟩ := countC_le _ _ (by omega) h
 obtain ⟨b1, b2, b3⟩ := countC_le _ 0 (by omega) a1
 rw [List.length_map] at a2 b2
 refine ⟨by omega, fun t ht => b3 _ (List.mem_map.2 ⟨t, ht, rfl⟩), by omega, fun l hl => a3 _ (List.mem_map.2 ⟨l, hl, rfl⟩)⟩
theorem countC_step {a : Int} {l : Nat} {ls : List Nat} (h : a ≤ 1500) : countC a (l :: ls) = countC (a + 1 + l) ls := if_pos h
set_option maxRecDepth 100000 in
set_option maxHeartbeats 8000000 in
theorem certOf28_any (w : World) (S S2 : Nat → Prop) (A B : Option Addr) (n k m j : Nat) (x : Cert) (h : Sl w S A n k x.tiles) (g : Sl w S2 B m j x.facts) (hm1 : ∀ t ∈ x.tiles, t.blocks.length ≤ 140737488355328) (hm2 : ∀ l ∈ x.facts, l.length ≤ 140737488355328) :
  Calls Tryz.prog 13 #[.agg #[.slice A n k, .slice B m j], .int .i64 1500] w (RetX (.int .i64 (certN x)) w) := by
 obtain ⟨tl, fl⟩ := x
 simp only at h g hm1 hm2
 have hn := h.nle
 have hm := g.nle
 obtain ⟨C, hC⟩ : ∃ C, w.heap.size = C := ⟨_, rfl⟩
 obtain ⟨W0, hW0⟩ : ∃ W0, w.alloc (.cells #[.slice A n k, .slice B m j] 26) = W0 := ⟨_, rfl⟩
 have HB0 := hide (show Below w.heap.size w W0 from by rw [← hW0]; exact (Below.refl _ _).alloc (Nat.le_refl _) _)
 have hr0 : W0.heap[C]? = some (.cells #[.slice A n k, .slice B m j] 26 (0, 0)) := by rw [← hW0, ← hC]; exact heap_alloc_new w _
 have a0 : W0.cell? ⟨C, 0, none⟩ = some (.slice A n k) := cell_of_row W0 C _ _ _ (0, 0) hr0
 have a1 : W0.cell? ⟨C, 1, none⟩ = some (.slice B m j) := cell_of_row W0 C _ _ _ (0, 0) hr0
 have al : C < W0.heap.size := (Array.getElem?_eq_some_iff.1 hr0).1
 have HS := hide (show Sl W0 S A n k tl from by rw [← hW0]; exact h.alloc _)
 have HS2 := hide (show Sl W0 S2 B m j fl from by rw [← hW0]; exact g.alloc _)
 have HM1 := hide hm1; have HM2 := hide hm2
 obtain ⟨N1, hN1⟩ : ∃ N, countC 0 (tl.map fun t => t.blocks.length) = N := ⟨_, rfl⟩
 obtain ⟨N2, hN2⟩ : ∃ N, countC N1 (fl.map List.length) = N := ⟨_, rfl⟩
 have he : certN ⟨tl, fl⟩ = N2 := by unfold certN; simp only; rw [hN1, hN2]
 rw [he]
 have HN1 := hide hN1; have HN2 := hide hN2
 have HCQ := hide hC; have HWQ := hide hW0
 clear h g hr0 he hN1 hN2 hC hW0 hm1 hm2
 go_enter Tryz.func13, Tryz.ntmps13
 go_upto_region 1 with (fail)
 rw [HWQ.out, HCQ.out]
 go_wp2_with fail
 go_loopw [5, 6] (fun a i wr => ∃ (k1 : Nat) (acc : Int), k1 ≤ n ∧ a = .int .i64 acc ∧ i = .int .i64 k1 ∧ countC acc ((tl.drop k1).map fun t => t.blocks.length) = N1 ∧ 0 ≤ acc ∧ acc ≤ 281474976710656 ∧ W0 = wr) (fun _ i _ => n - (intOf i).toNat)
 case atStart => exact ⟨0, 0, Nat.zero_le _, rfl, rfl, HN1.out, by omega, by omega, rfl⟩
 case round =>
  obtain ⟨k1, acc, hk, rfl, rfl, hc, h0, hle, rfl⟩ := hrel
  have HC := hide hc
  clear hc
  by_cases hlt : k1 < n
  ·have hki : decide ((k1 : Int) < n) = true := by simp; omega
   by_cases hA : acc ≤ 1500
   ·have hA2 : decide (acc ≤ 1500) = true := by simpa using hA
    obtain ⟨bb, off, t, At, nt, ct, hAe, hbb, hx, -, -, hs1, c0, c1, c2⟩ := at_Tile HS.out hlt
    subst hAe
    have hnt : nt ≤ 140737488355328 := by rw [← hs1.len]; exact HM1.out t (mem_at hx)
    have hln := hs1.len
    have HC2 := hide (show countC (acc + 1 + nt) ((tl.drop (k1 + 1)).map fun t => t.blocks.length) = N1 from by
     rw [← HC.out, drop_at hx, List.map_cons, countC_step hA, hln])
    clear hx hs1 hln
    go_wp2_with fail
    go_roundw
    case rel => exact ⟨k1 + 1, acc + 1 + nt, by omega, by go_num, by go_num, HC2.out, by omega, by omega, trivial⟩
    case measure => simp [intOf]; omega
   ·have hA2 : decide (acc ≤ 1500) = false := by simp; omega
    have HE := hide (show acc = N1 from by rw [← HC.out, countC_over hA])
    go_wp2_with fail
    try clear hA hA2
    try clear hki hlt hk HC
    go_loopw [5, 7] (fun a i wr => ∃ (k1 : Nat) (acc : Int), k1 ≤ m ∧ a = .int .i64 acc ∧ i = .int .i64 k1 ∧ countC acc ((fl.drop k1).map List.length) = N2 ∧ 0 ≤ acc ∧ acc ≤ 281474976710656 ∧ W0 = wr) (fun _ i _ => m - (intOf i).toNat)
    case atStart => exact ⟨0, acc, Nat.zero_le _, rfl, rfl, by rw [HE.out]; exact HN2.out, by omega, by omega, rfl⟩
    case round =>
     clear HE h0 hle
     obtain ⟨k3, ac3, hk3, rfl, rfl, hc, h0, hle, hwr⟩ := hrel
     subst hwr
     have HC3 := hide hc
     clear hc
     by_cases hlt3 : k3 < m
     ·have hki3 : decide ((k3 : Int) < m) = true := by simp; omega
      by_cases hA3 : ac3 ≤ 1500
      ·have hA4 : decide (ac3 ≤ 1500) = true := by simpa using hA3
       obtain ⟨bb, off, l, Al, nl, cl, hAe, hbb, hx, hs1, c0⟩ := at_factRow HS2.out hlt3
       subst hAe
       have hnl : nl ≤ 140737488355328 := by rw [← hs1.len]; exact HM2.out l (mem_at hx)
       have hln := hs1.len
       have HC4 := hide (show countC (ac3 + 1 + nl) ((fl.drop (k3 + 1)).map List.length) = N2 from by
        rw [← HC3.out, drop_at hx, List.map_cons, countC_step hA3, hln])
       clear hx hs1 hln
       go_wp2_with fail
       go_roundw
       case rel => exact ⟨k3 + 1, ac3 + 1 + nl, by omega, by go_num, by go_num, HC4.out, by omega, by omega, trivial⟩
       case measure => simp [intOf]; omega
      ·have hA4 : decide (ac3 ≤ 1500) = false := by simp; omega
       have HE3 := hide (show ac3 = N2 from by rw [← HC3.out, countC_over hA3])
       go_wp2_with fail
       go_ret
       exact RetX.i HE3.out HB0.out
     ·have hki3 : decide ((k3 : Int) < m) = false := by simp; omega
      have HE3 := hide (show ac3 = N2 from by rw [← HC3.out, drop_end HS2.out.len hlt3]; rfl)
      go_wp2_with fail
      go_ret
      exact RetX.i HE3.out HB0.out
  ·have hki : decide ((k1 : Int) < n) = false := by simp; omega
   have HE := hide (show acc = N1 from by rw [← HC.out, drop_end HS.out.len hlt]; rfl)
   go_wp2_with fail
   try clear hA hA2
   try clear hki hlt hk HC
   go_loopw [5, 7] (fun a i wr => ∃ (k1 : Nat) (acc : Int), k1 ≤ m ∧ a = .int .i64 acc ∧ i = .int .i64 k1 ∧ countC acc ((fl.drop k1).map List.length) = N2 ∧ 0 ≤ acc ∧ acc ≤ 281474976710656 ∧ W0 = wr) (fun _ i _ => m - (intOf i).toNat)
   case atStart => exact ⟨0, acc, Nat.zero_le _, rfl, rfl, by rw [HE.out]; exact HN2.out, by omega, by omega, rfl⟩
   case round =>
    clear HE h0 hle
    obtain ⟨k3, ac3, hk3, rfl, rfl, hc, h0, hle, hwr⟩ := hrel
    subst hwr
    have HC3 := hide hc
    clear hc
    by_cases hlt3 : k3 < m
    ·have hki3 : decide ((k3 : Int) < m) = true := by simp; omega
     by_cases hA3 : ac3 ≤ 1500
     ·have hA4 : decide (ac3 ≤ 1500) = true := by simpa using hA3
      obtain ⟨bb, off, l, Al, nl, cl, hAe, hbb, hx, hs1, c0⟩ := at_factRow HS2.out hlt3
      subst hAe
      have hnl : nl ≤ 140737488355328 := by rw [← hs1.len]; exact HM2.out l (mem_at hx)
      have hln := hs1.len
      have HC4 := hide (show countC (ac3 + 1 + nl) ((fl.drop (k3 + 1)).map List.length) = N2 from by
       rw [← HC3.out, drop_at hx, List.map_cons, countC_step hA3, hln])
      clear hx hs1 hln
      go_wp2_with fail
      go_roundw
      case rel => exact ⟨k3 + 1, ac3 + 1 + nl, by omega, by go_num, by go_num, HC4.out, by omega, by omega, trivial⟩
      case measure => simp [intOf]; omega
     ·have hA4 : decide (ac3 ≤ 1500) = false := by simp; omega
      have HE3 := hide (show ac3 = N2 from by rw [← HC3.out, countC_over hA3])
      go_wp2_with fail
      go_ret
      exact RetX.i HE3.out HB0.out
    ·have hki3 : decide ((k3 : Int) < m) = false := by simp; omega
     have HE3 := hide (show ac3 = N2 from by rw [← HC3.out, drop_end HS2.out.len hlt3]; rfl)
     go_wp2_with fail
     go_ret
     exact RetX.i HE3.out HB0.out
end Go.Proofs.YtppkanniefignaaGreatDoor
namespace Go.Proofs.YtppkanniefignaaGreatDoor
open Go.RowKit Go.Maps
set_option maxRecDepth 100000 in
set_option maxHeartbeats 8000000 in
theorem lentFactRows28_any (w : World) (S : Nat → Prop) (A : Option Addr) (n c : Nat) (xs : List (List Fact)) (h : Sl w S A n c xs) (hm : xs.length ≤ 1048576) (hm2 : ∀ l ∈ xs, l.length ≤ 1048576) :
  Calls Tryz.prog 46 #[.slice A n c] w (RetO 37 (xs.map L.mk) w) := by
 have HL := hide h.len
 have hn : n ≤ 1048576 := by rw [← h.len]; exact hm
 have HS := hide h; clear h
 have HM := hide hm2; clear hm hm2
 obtain ⟨i0, hi, hz, hz1, hz2⟩ := info_parts info_Facts28
 have HI0 := hide hi; have HZ := hide hz; have HZ1 := hide hz1; have HZ2 := hide hz2
 clear hi hz hz1 hz2
 obtain ⟨B, hB⟩ : ∃ B, B = w.heap.size := ⟨_, rfl⟩
 have HB := hide hB
 have hB1 : B ≤ w.heap.size := by omega
 have hB2 : w.heap.size ≤ B := by omega
 clear hB
 go_enter Tryz.func46, Tryz.ntmps46
 go_wp2
 go_loopw [3, 4] (fun o i wr => ∃ k : Nat, ∃ So : Nat → Prop, k ≤ n ∧ i = .int .i64 k ∧ OwnL wr B 37 So o ((xs.take k).map L.mk) ∧ (∀ b, So b → B ≤ b ∧ b < wr.heap.size) ∧ Below B w wr ∧ B ≤ wr.heap.size) (fun _ i _ => n - (intOf i).toNat)
 case atStart => exact ⟨0, fun _ => False, Nat.zero_le _, rfl, OwnL.nil_ _ _ _ _, fun _ h => h.elim, Below.refl _ _, hB1⟩
 case round =>
  obtain ⟨k, So, hk, rfl, hown, hSo, hbel, hsz⟩ := hrel
  have HO := hide hown; have HSo := hide hSo; have HBel := hide hbel
  clear hown hSo hbel
  by_cases hlt : k < n
  ·obtain ⟨b, off, x, A0, n0, c0, rfl, hb, hx, hs0, d0⟩ := at_factRow HS.out hlt
   have hcell : ∀ o, wr.cell? ⟨b, o, none⟩ = w.cell? ⟨b, o, none⟩ := fun o => HBel.out.cell (by show b < B; omega)
   rw [← hcell] at d0
   clear hcell
   have HSm := hide (HM.out x (mem_at hx))
   have HX := hide (take_at hx); clear hx
   have HJ0 := hide ((hs0.more (S' := fun b => b < B) (fun b hb _ => by omega)).below HBel.out (fun _ h => h)); clear hs0
   go_wp2_with (first
    | (go_at_call 100; (with_reducible refine (lentFacts28_any _ _ A0 n0 c0 x HJ0.out HSm.out).mono ?_); rintro e _ ⟨B0, m0, e0, rfl, hl0, ht0, ux, rfl⟩; have HT0 := hide ht0; have HTL0 := hide hl0; clear ht0 hl0)
    | (at_builtin; refine wpList_push (α := L (List Fact)) (wr.ext ux) [.slice B0 m0 e0] 37 rfl (.tmp 11) (.tmp 17) 24 rfl B 37 i0 _ 24 Tryz.underlying24 HI0.out HZ.out HZ1.out HZ2.out rfl (by decide) So (fun b => So b ∨ (wr.heap.size ≤ b ∧ b < (wr.ext ux).heap.size)) u3 ((xs.take k).map L.mk) (L.mk x) rfl (HO.out.ext ux) _ rfl ?hg ?hr (fun _ h => .inl h) ?hap ?hnew ?hl1 ?hl2 ?hl3 ?_; rotate_left 7; intro v' w1 hown' hg _; have HO' := hide hown'; have HG := hide hg; clear hown' hg))
   case hr => exact ⟨_, _, _, rfl, HTL0.out, HT0.out.more (fun b hb h => .inr ⟨h, hb⟩)⟩
   case hg => simp [size_ext]
   case hap =>
    intro g hg hS
    rcases hS with hS | hS
    ·exact absurd (HO.out) (fun h => by obtain ⟨_, _, _, h3⟩ := h; exact h3 g hg hS)
    ·have := (HO.out.below_ g hg).2; omega
   case hnew =>
    intro b hS
    rcases hS with hS | hS
    ·have := (HSo.out b hS).2; simp [size_ext]; omega
    ·have := hS.2; simp [size_ext] at this ⊢; omega
   case hl1 => simp; omega
   case hl2 => simp; omega
   case hl3 => simp [size_ext]; omega
   go_wp2
   go_roundw
   case rel =>
    have hb1 : Below B w w1 := below_push (W := wr.ext ux) (v := u3) (HBel.out.ext hsz ux) (HO.out.ext ux) (by simp [size_ext]; omega) HG.out
    have hs1 := HG.out.size
    refine ⟨k + 1, _, by omega, by go_num, by rw [HX.out, List.map_append]; exact HO'.out, fun b hS => ?_, hb1, Nat.le_trans hB1 hb1.size⟩
    simp [size_ext] at hs1
    rcases hS with hS | hS
    ·have := HSo.out b hS; omega
    ·have := hS.2; simp [size_ext] at this; omega
   case measure => simp [intOf]; omega
  ·go_wp2
   go_ret
   have ho := HO.out
   rw [take_end HL.out hlt] at ho
   have e := HB.out
   subst e
   exact RetO.mk_ ho (HSo.out) HBel.out
theorem at_lentRow28 {w : World} {S : Nat → Prop} {A : Option Addr} {n c : Nat} {xs : List (List Fact)} (h : Sl w S A n c (xs.map L.mk)) {k : Nat} (hk : k < n) :
  ∃ b off, ∃ x : List Fact, ∃ A1 n1 c1, A = some ⟨b, off, none⟩ ∧ b < w.heap.size ∧ xs[k]? = some x ∧ x.length = n1 ∧ Sl w S A1 (n1 + 12) c1 (row x) ∧ w.cell? ⟨b, off + k, none⟩ = some (.slice A1 n1 c1) := by
 obtain ⟨b, off, y, us, e, hb, _, hx, hus, hc⟩ := h.at_ hk
 obtain ⟨A1, n1, c1, rfl, hl, hs⟩ := hus
 rw [List.getElem?_map] at hx
 cases hq : xs[k]? with
 | none => rw [hq] at hx; simp at hx
 | some x =>
  rw [hq] at hx
  simp only [Option.map_some, Option.some.injEq] at hx
  subst hx
  refine ⟨b, off, x, A1, n1, c1, e, hb, rfl, hl, hs, ?_⟩
  have := hc 0 _ rfl
  simpa [Rep.size] using this
theorem Sl.forgetRows28 {w : World} {S : Nat → Prop} {A : Option Addr} {n c : Nat} {xs : List (List Fact)} (h : Sl w S A n c (xs.map L.mk)) : Sl w S A n c xs := by
 obtain ⟨h1, h2, h3, h4, h5⟩ := h
 refine ⟨by rw [← h1, List.length_map], h2, h3, h4, fun h0 => ?_⟩
 obtain ⟨b, off, e, hb, hS, hx⟩ := h5 h0
 refine ⟨b, off, e, hb, hS, fun i x hi => ?_⟩
 obtain ⟨us, hus, hc⟩ := hx i (L.mk x) (by rw [List.getElem?_map, hi]; rfl)
 exact ⟨us, L.forget hus, hc⟩
set_option maxRecDepth 100000 in
set_option maxHeartbeats 8000000 in
theorem keptFactRows28_any (w : World) (S S' : Nat → Prop) (A A' : Option Addr) (n c c' : Nat) (xs : List (List Fact)) (h : Sl w S A n c (xs.map L.mk)) (h' : Sl w S' A' n c' xs) (hm : xs.length ≤ 1048576) (hm2 : ∀ l ∈ xs, l.length ≤ 1048576) :
  Calls Tryz.prog 53 #[.slice A n c, .slice A' n c'] w (RetX (.bool true) w) := by
 have hn : n ≤ 1048576 := by rw [← h'.len]; exact hm
 have HL := hide h'.len
 have HS := hide h; have HS' := hide h'; have HM := hide hm2
 clear h h' hm hm2
 go_enter Tryz.func53, Tryz.ntmps53
 go_wp2
 go_loopw [5] (fun i wr => ∃ k : Nat, k ≤ n ∧ i = .int .i64 k ∧ ∃ u, wr = w.ext u) (fun i _ => n - (intOf i).toNat)
 case atStart => exact ⟨0, Nat.zero_le _, rfl, ext_refl _⟩
 case round =>
  obtain ⟨k, hk, rfl, u, rfl⟩ := hrel
  by_cases hlt : k < n
  ·obtain ⟨b, off, x, A1, n1, c1, rfl, hb, hx, hl, hs, d0⟩ := at_lentRow28 HS.out hlt
   obtain ⟨b', off', x', A2, n2, c2, rfl, hb', hx', hs', e0⟩ := at_factRow HS'.out hlt
   obtain rfl := some_eq hx hx'
   have HSm := hide (HM.out x (mem_at hx))
   clear hx hx'
   obtain rfl : n1 = n2 := hl.symm.trans hs'.len
   have HI0 := hide hs; have HI0' := hide hs'
   clear hs hs'
   go_wp2
   refine wp_region_ext (by kernel_rfl) (by kernel_rfl) ?_
   repeat (any_goals (first | go_big_quiet_step (((go_at_call 115; exact quiet_retx (keptFacts28_any _ S S' A1 A2 n1 c1 c2 x (by repeat (first | assumption | exact Hd.out (by assumption) | apply Sl.alloc | apply Sl.ext | apply Sl.drew | apply Sl.drewN)) (by repeat (first | assumption | exact Hd.out (by assumption) | apply Sl.alloc | apply Sl.ext | apply Sl.drew | apply Sl.drewN)) HSm.out)))) | quiet_step (((go_at_call 115; exact quiet_retx (keptFacts28_any _ S S' A1 A2 n1 c1 c2 x (by repeat (first | assumption | exact Hd.out (by assumption) | apply Sl.alloc | apply Sl.ext | apply Sl.drew | apply Sl.drewN)) (by repeat (first | assumption | exact Hd.out (by assumption) | apply Sl.alloc | apply Sl.ext | apply Sl.drew | apply Sl.drewN)) HSm.out))))))
   refine wpQuiet_nil ?_
   rintro _ ⟨uq, rfl⟩
   go_wp2
   go_roundw
   case rel => exact ⟨k + 1, by omega, by go_num, Below.to_ext (by repeat (first | exact Below.refl _ _ | assumption | refine Below.alloc ?_ (by simp [size_ext]; try omega) _ | refine Below.ext ?_ (by simp [size_ext]; try omega) _ | refine Below.drew ?_ | refine Below.setCell ?_ (by simp [size_ext]; try omega) _))⟩
   case measure => simp [intOf]; omega
  ·go_wp2
   go_ret
   exact RetX.b rfl (by repeat (first | exact Below.refl _ _ | assumption | refine Below.alloc ?_ (by simp [size_ext]; try omega) _ | refine Below.ext ?_ (by simp [size_ext]; try omega) _ | refine Below.drew ?_ | refine Below.setCell ?_ (by simp [size_ext]; try omega) _))
end Go.Proofs.YtppkanniefignaaGreatDoor
namespace Go.Proofs.YtppkanniefignaaGreatDoor
open Go.RowKit Go.Maps
def LentTlP (B n : Nat) (xs : List Tile) : Post := fun v w => ∃ A c, v = .slice A n c ∧ Sl w (fun b => B ≤ b) A (n + 12) c (row xs)
theorem LentTlP.stable_ {F : World → Prop} {B n : Nat} {xs : List Tile} {mem : Bool} (hm : mem = true) : stable F mem (LentTlP B n xs) :=
 stable_mem hm fun _ _ u ⟨A, c, hv, h⟩ => ⟨A, c, hv, h.ext u⟩
def LentRwP (B n : Nat) (xs : List (List Fact)) : Post := fun v w => ∃ A c, v = .slice A n c ∧ Sl w (fun b => B ≤ b) A n c (xs.map L.mk)
theorem LentRwP.stable_ {F : World → Prop} {B n : Nat} {xs : List (List Fact)} {mem : Bool} (hm : mem = true) : stable F mem (LentRwP B n xs) :=
 stable_mem hm fun _ _ u ⟨A, c, hv, h⟩ => ⟨A, c, hv, h.ext u⟩
def LentCtP (B n m : Nat) (x : Cert) : Post := fun v w => ∃ A k C j, v = .agg #[.slice A n k, .slice C m j] ∧ Sl w (fun b => B ≤ b) A (n + 12) k (row x.tiles) ∧ Sl w (fun b => B ≤ b) C m j (x.facts.map L.mk)
theorem LentCtP.stable_ {F : World → Prop} {B n m : Nat} {x : Cert} {mem : Bool} (hm : mem = true) : stable F mem (LentCtP B n m x) :=
 stable_mem hm fun _ _ u ⟨A, k, C, j, hv, h, g⟩ => ⟨A, k, C, j, hv, h.ext u, g.ext u⟩
def LentC (x : Cert) (n m : Nat) (w : World) (e : Ending) (w' : World) : Prop :=
 ∃ A k C j, e = .returned (.agg #[.slice A n k, .slice C m j]) ∧ Sl w' (fun b => w.heap.size ≤ b) A (n + 12) k (row x.tiles) ∧ Sl w' (fun b => w.heap.size ≤ b) C m j (x.facts.map L.mk) ∧ ∃ u : Ext, w' = w.ext u
set_option maxRecDepth 100000 in
set_option maxHeartbeats 8000000 in
theorem lentCert28_any (w : World) (S S2 : Nat → Prop) (A B : Option Addr) (n k m j : Nat) (x : Cert) (h : Sl w S A n k x.tiles) (g : Sl w S2 B m j x.facts) (hs : CertSm x) :
  Calls Tryz.prog 14 #[.agg #[.slice A n k, .slice B m j]] w (LentC x n m w) := by
 obtain ⟨tl, fl⟩ := x
 simp only at h g
 have s1 := hs.t; have s2 := hs.b; have s3 := hs.f; have s4 := hs.l
 simp only at s1 s2 s3 s4
 obtain ⟨C, hC⟩ : ∃ C, w.heap.size = C := ⟨_, rfl⟩
 obtain ⟨C2, hC2⟩ : ∃ C2, C + 1 = C2 := ⟨_, rfl⟩
 obtain ⟨W0, hW0⟩ : ∃ W0, (w.alloc (.cells #[.slice A n k, .slice B m j] 26)).alloc (.cells #[.slice none 0 0, .slice none 0 0] 26) = W0 := ⟨_, rfl⟩
 have HB0 := hide (show Below w.heap.size w W0 from by rw [← hW0]; exact ((Below.refl _ _).alloc (Nat.le_refl _) _).alloc (by simp) _)
 have hr0 : W0.heap[C]? = some (.cells #[.slice A n k, .slice B m j] 26 (0, 0)) := by rw [← hW0, Below.heap_alloc _ _ _ (by simp; omega), ← hC]; exact heap_alloc_new w _
 have hr2 : W0.heap[C2]? = some (.cells #[.slice none 0 0, .slice none 0 0] 26 (0, 0)) := by
  have e : (w.alloc (.cells #[.slice A n k, .slice B m j] 26)).heap.size = C2 := by rw [← hC2, ← hC]; simp
  rw [← hW0, ← e]; exact heap_alloc_new _ _
 have a0 : W0.cell? ⟨C, 0, none⟩ = some (.slice A n k) := cell_of_row W0 C _ _ _ (0, 0) hr0
 have a1 : W0.cell? ⟨C, 1, none⟩ = some (.slice B m j) := cell_of_row W0 C _ _ _ (0, 0) hr0
 have al : C < W0.heap.size := (Array.getElem?_eq_some_iff.1 hr0).1
 have bl : C2 < W0.heap.size := (Array.getElem?_eq_some_iff.1 hr2).1
 have HR2 := hide hr2
 have HS := hide (show Sl W0 S A n k tl from by rw [← hW0]; exact (h.alloc _).alloc _)
 have HS2 := hide (show Sl W0 S2 B m j fl from by rw [← hW0]; exact (g.alloc _).alloc _)
 have HT := hide (fun u : Ext => lentTiles_any (W0.ext u) S A n k tl (HS.out.ext u) ⟨by omega, fun y hy => by have := s2 y hy; show y.blocks.length ≤ 1048576; omega⟩)
 have HRW := hide (fun u : Ext => lentFactRows28_any (W0.ext u) S2 B m j fl (HS2.out.ext u) (by omega) (fun y hy => by have := s4 y hy; omega))
 have HML := hide (show fl.length = m from HS2.out.len)
 have HCQ := hide hC; have HWQ := hide hW0; have HCQ2 := hide hC2
 clear h g hr0 hr2 hC hW0 hC2 s1 s2 s3 s4 hs
 go_enter Tryz.func14, Tryz.ntmps14
 go_upto_region 1 with (fail)
 rw [HWQ.out, HCQ.out, HCQ2.out]
 refine wp_region_last_ext [] [2, 5, 6] 7 (by kernel_rfl) rfl rfl rfl (by kernel_rfl) (by kernel_rfl) ?_
 simp only [List.take_succ_cons, List.take_zero]
 repeat (refine flow_known (by kernel_rfl) (fun K hK => ?_); go_simp; (first | (refine hK _ ?_; clear hK K) | (apply Exists.intro; refine ⟨fun _ => ?_, hK _ ?_⟩; (fail); clear hK K)))
 refine flow_keep0 (LentTlP W0.heap.size n tl) (by kernel_rfl) (LentTlP.stable_ rfl) ?_ ?_
 ·intro u
  go_simp
  refine (HT.out u).mono ?_
  rintro e _ ⟨A1, n1, c1, rfl, hl, hs, u2, rfl⟩
  obtain rfl : n = n1 := HS.out.len.symm.trans hl
  exact ⟨_, rfl, ⟨A1, c1, rfl, hs.more fun b _ hb => by rw [size_ext] at hb; omega⟩, onW_ext ⟨_, rfl⟩ ⟨u2, rfl⟩⟩
 repeat (refine flow_known (by kernel_rfl) (fun K hK => ?_); go_simp; (first | (refine hK _ ?_; clear hK K) | (apply Exists.intro; refine ⟨fun _ => ?_, hK _ ?_⟩; (fail); clear hK K)))
 refine flow_keep0 (LentRwP W0.heap.size m fl) (by kernel_rfl) (LentRwP.stable_ rfl) ?_ ?_
 ·intro u
  go_simp
  refine (HRW.out u).mono ?_
  rintro e _ hx
  obtain ⟨A1, n1, c1, rfl, hs, u2, rfl⟩ := hx.retSl
  obtain rfl : m = n1 := by have := hs.len; rw [List.length_map, HML.out] at this; exact this
  exact ⟨_, rfl, ⟨A1, c1, rfl, hs.more fun b _ hb => by rw [size_ext] at hb; omega⟩, onW_ext ⟨_, rfl⟩ ⟨u2, rfl⟩⟩
 refine flow_keep [true, true] (LentCtP W0.heap.size n m ⟨tl, fl⟩) (by kernel_rfl) (LentCtP.stable_ rfl) ?_ ?_
 ·intro u
  try simp only [List.nil_append, List.cons_append, useH_f, useH_t, useH_nil]
  rintro _ ⟨A1, c1, rfl, h1⟩ _ ⟨A2, c2, rfl, h2⟩
  go_simp
  first | exact ⟨⟨A1, c1, A2, c2, rfl, h1, h2⟩, onW_same ⟨_, rfl⟩⟩
 refine flow_done [true, true, true] (by kernel_rfl) ?_
 intro u
 simp only [List.nil_append, List.cons_append, endH_f, endH_t, endH_nil]
 rintro _ - _ - _ ⟨A1, c1, A2, c2, rfl, h1, h2⟩
 obtain ⟨W1, hW1⟩ : ∃ W, W0.ext u = W := ⟨_, rfl⟩
 have hb1 : Below W0.heap.size W0 W1 := by rw [← hW1]; exact Below.of_ext W0 u (Nat.le_refl _)
 rw [hW1] at h1 h2 ⊢
 have hr : W1.heap[C2]? = some (.cells #[.slice none 0 0, .slice none 0 0] 26 (0, 0)) := (hb1.block C2 bl).trans HR2.out
 have HR3 := hide hr
 have HH1 := hide h1; have HH2 := hide h2
 have b0 : W1.cell? ⟨C2, 0, none⟩ = some (.slice none 0 0) := cell_of_row W1 C2 _ _ _ (0, 0) hr
 have b1 : W1.cell? ⟨C2, 1, none⟩ = some (.slice none 0 0) := cell_of_row W1 C2 _ _ _ (0, 0) hr
 have fz : ∀ j, W1.frozen? ⟨C2, j, none⟩ = false := fun j => by simp [World.frozen?, hr]
 have f0 := fz 0
 have f1 := fz 1
 have bl1 : C2 < W1.heap.size := (Array.getElem?_eq_some_iff.1 hr).1
 have HB1 := hide hb1
 clear hW1 h1 h2 hr hb1 a0 a1
 go_simp
 go_wp2_with fail
 have hrow : ((W1.setCell ⟨C2, 0, none⟩ (.slice A1 n c1)).setCell ⟨C2, 1, none⟩ (.slice A2 m c2)).heap[C2]? = some (.cells #[.slice A1 n c1, .slice A2 m c2] 26 (0, 0)) := Lib.heap_setCell_same (i := 1) (Lib.heap_setCell_same (i := 0) HR3.out (.slice A1 n c1)) (.slice A2 m c2)
 have hw : w.heap.size ≤ C2 := by have := HCQ.out; have := HCQ2.out; omega
 have HB2 := hide ((((HB0.out.trans (HB1.out.mono HB0.out.size)).setCell (p := ⟨C2, 0, none⟩) hw (.slice A1 n c1)).setCell (p := ⟨C2, 1, none⟩) hw (.slice A2 m c2)))
 have hk : ∀ q, W0.heap.size ≤ q → ((W1.setCell ⟨C2, 0, none⟩ (.slice A1 n c1)).setCell ⟨C2, 1, none⟩ (.slice A2 m c2)).heap[q]? = W1.heap[q]? := fun q hq => by rw [Below.heap_setCell _ _ _ _ (by show q ≠ C2; omega), Below.heap_setCell _ _ _ _ (by show q ≠ C2; omega)]
 have hsz : W1.heap.size ≤ ((W1.setCell ⟨C2, 0, none⟩ (.slice A1 n c1)).setCell ⟨C2, 1, none⟩ (.slice A2 m c2)).heap.size := by simp
 refine bodyPost_ret (results_cell_row Tryz.results14 _ _ C2 _ _ (0, 0) _ rfl hrow Tryz.underlying26 rfl (by kernel_rfl)) rfl ?_
 exact ⟨A1, c1, A2, c2, rfl, (HH1.out.keep hsz (fun b hS _ => hk b hS)).more (fun b _ hb => by have := HB0.out.size; omega), (HH2.out.keep hsz (fun b hS _ => hk b hS)).more (fun b _ hb => by have := HB0.out.size; omega), Below.to_ext HB2.out⟩
end Go.Proofs.YtppkanniefignaaGreatDoor
namespace Go.Proofs.YtppkanniefignaaGreatDoor
open Go.RowKit Go.Maps
theorem keptCert28_any (w : World) (S S' S2 S2' : Nat → Prop) (A A' B B' : Option Addr) (n k k' m j j' : Nat) (x : Cert) (h : Sl w S A (n + 12) k (row x.tiles)) (h' : Sl w S' A' n k' x.tiles) (g : Sl w S2 B m j (x.facts.map L.mk)) (g' : Sl w S2' B' m j' x.facts) (hs : CertSm x) :
  Calls Tryz.prog 21 #[.agg #[.slice A n k, .slice B m j], .agg #[.slice A' n k', .slice B' m j']] w (RetX (.bool true) w) := by
 have s1 := hs.t; have s3 := hs.f
 have HM1 := hide (show x.tiles.length ≤ 1048576 ∧ ∀ y ∈ x.tiles, SmallTl 1048576 y from ⟨by omega, fun y hy => by have := hs.b y hy; show y.blocks.length ≤ 1048576; omega⟩)
 have HM2 := hide (show x.facts.length ≤ 1048576 from by omega)
 have HM3 := hide (show ∀ l ∈ x.facts, l.length ≤ 1048576 from fun y hy => by have := hs.l y hy; omega)
 have H0 := hide h; clear h
 have H0' := hide h'; clear h'
 have G0 := hide g; clear g
 have G0' := hide g'; clear g' hs s1 s3
 go_enter Tryz.func21, Tryz.ntmps21
 go_wp2_with (first | (go_at_call 52; refine (keptTiles_any _ S S' A A' n k k' x.tiles (by repeat (first | assumption | exact Hd.out (by assumption) | apply Sl.alloc | apply Sl.ext | apply Sl.drew | apply Sl.drewN)) (by repeat (first | assumption | exact Hd.out (by assumption) | apply Sl.alloc | apply Sl.ext | apply Sl.drew | apply Sl.drewN)) HM1.out).mono ?_; rintro e _ ⟨rfl, ux, rfl⟩) | (go_at_call 53; refine (keptFactRows28_any _ S2 S2' B B' m j j' x.facts (by repeat (first | assumption | exact Hd.out (by assumption) | apply Sl.alloc | apply Sl.ext | apply Sl.drew | apply Sl.drewN)) (by repeat (first | assumption | exact Hd.out (by assumption) | apply Sl.alloc | apply Sl.ext | apply Sl.drew | apply Sl.drewN)) HM2.out HM3.out).mono ?_; rintro e _ ⟨rfl, ux, rfl⟩))
 go_ret
 exact RetX.b rfl (by repeat (first | exact Below.refl _ _ | assumption | refine Below.alloc ?_ (by simp [size_ext]; try omega) _ | refine Below.ext ?_ (by simp [size_ext]; try omega) _ | refine Below.drew ?_ | refine Below.setCell ?_ (by simp [size_ext]; try omega) _))
end Go.Proofs.YtppkanniefignaaGreatDoor
