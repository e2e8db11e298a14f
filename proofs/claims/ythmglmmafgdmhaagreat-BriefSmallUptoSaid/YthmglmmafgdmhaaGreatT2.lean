/- Walks: briefs that are lent, the document's, kept. Walks: the document's briefs; are briefs that were lent as they were. -/
import Derived.Test.YthmglmmafgdmhaaGreatT1
import Derived.Test.YthmglmmafgdmhaaGreatLO
import Derived.Test.YthmglmmafgdmhaaGreatK3
set_option linter.unusedSimpArgs false
set_option linter.unusedVariables false
namespace Go.Proofs.YthmglmmafgdmhaaGreat
open Go.RowKit Go.Maps

/-- A brief whose lists are lent. -/
structure LB where
  b : Brief
  deriving Inhabited
def lentAt (w : World) (S : Nat → Prop) (xs : List Int) (v : Value) : Prop := ∃ A c, v = .slice A xs.length c ∧ Sl w S A (xs.length + 12) c (row xs)
instance : Rep LB where
  size := 3
  is w S x vs := ∃ v1 v2 v3, vs = [v1, v2, v3] ∧ lentAt w S x.b.vars v1 ∧ lentAt w S x.b.colors v2 ∧ lentAt w S x.b.edge v3
  len h := by obtain ⟨_, _, _, rfl, _⟩ := h; rfl
  keep h hs hk := by
    obtain ⟨v1, v2, v3, rfl, ⟨A1, c1, h1, k1⟩, ⟨A2, c2, h2, k2⟩, ⟨A3, c3, h3, k3⟩⟩ := h
    exact ⟨_, _, _, rfl, ⟨A1, c1, h1, k1.keep hs hk⟩, ⟨A2, c2, h2, k2.keep hs hk⟩, ⟨A3, c3, h3, k3.keep hs hk⟩⟩
  more h hS := by
    obtain ⟨v1, v2, v3, rfl, ⟨A1, c1, h1, k1⟩, ⟨A2, c2, h2, k2⟩, ⟨A3, c3, h3, k3⟩⟩ := h
    exact ⟨_, _, _, rfl, ⟨A1, c1, h1, k1.more hS⟩, ⟨A2, c2, h2, k2.more hS⟩, ⟨A3, c3, h3, k3.more hS⟩⟩
  one h := by
    obtain ⟨v1, v2, v3, rfl, ⟨A1, c1, rfl, _⟩, ⟨A2, c2, rfl, _⟩, ⟨A3, c3, rfl, _⟩⟩ := h
    intro u hu
    simp at hu
    rcases hu with rfl | rfl | rfl <;> rfl
abbrev lbs (l : List Brief) : List LB := l.map LB.mk
theorem LB.forget {w : World} {S : Nat → Prop} {x : Brief} {us : List Value} (h : Rep.is w S (LB.mk x) us) : Rep.is w S x us := by
  obtain ⟨v1, v2, v3, rfl, ⟨A1, c1, rfl, k1⟩, ⟨A2, c2, rfl, k2⟩, ⟨A3, c3, rfl, k3⟩⟩ := h
  exact Brief.mk_ (k1.forget rfl) (k2.forget rfl) (k3.forget rfl)
theorem lbs_forget {w : World} {S : Nat → Prop} {A : Option Addr} {n c : Nat} {l : List Brief} (h : Sl w S A n c (lbs l)) : Sl w S A n c l := by
  obtain ⟨h1, h2, h3, h4, h5⟩ := h
  rw [List.length_map] at h1
  refine ⟨h1, h2, h3, h4, fun hn => ?_⟩
  obtain ⟨b, off, e, hb, hS, hx⟩ := h5 hn
  refine ⟨b, off, e, hb, hS, fun i x hi => ?_⟩
  obtain ⟨us, hus, hc⟩ := hx i (LB.mk x) (by rw [List.getElem?_map, hi]; rfl)
  exact ⟨us, LB.forget hus, hc⟩
theorem at_LB {w : World} {S : Nat → Prop} {A : Option Addr} {n c : Nat} {l : List Brief} (h : Sl w S A n c (lbs l)) {k : Nat} (hk : k < n) {x : Brief} (hx : l[k]? = some x) :
    ∃ b off A1 c1 A2 c2 A3 c3, A = some ⟨b, off, none⟩ ∧ b < w.heap.size ∧ Sl w S A1 (x.vars.length + 12) c1 (row x.vars) ∧ Sl w S A2 (x.colors.length + 12) c2 (row x.colors) ∧ Sl w S A3 (x.edge.length + 12) c3 (row x.edge) ∧
      w.cell? ⟨b, off + k * 3, none⟩ = some (.slice A1 x.vars.length c1) ∧ w.cell? ⟨b, off + k * 3 + 1, none⟩ = some (.slice A2 x.colors.length c2) ∧ w.cell? ⟨b, off + k * 3 + 2, none⟩ = some (.slice A3 x.edge.length c3) := by
  obtain ⟨b, off, y, us, e, hb, _, hy, hus, hc⟩ := h.at_ hk
  rw [List.getElem?_map, hx] at hy
  injection hy with hy
  subst hy
  obtain ⟨v1, v2, v3, rfl, ⟨A1, c1, rfl, k1⟩, ⟨A2, c2, rfl, k2⟩, ⟨A3, c3, rfl, k3⟩⟩ := hus
  refine ⟨b, off, A1, c1, A2, c2, A3, c3, e, hb, k1, k2, k3, ?_, ?_, ?_⟩
  · have := hc 0 _ rfl; simpa [Rep.size, Nat.add_assoc] using this
  · have := hc 1 _ rfl; simpa [Rep.size, Nat.add_assoc] using this
  · have := hc 2 _ rfl; simpa [Rep.size, Nat.add_assoc] using this
theorem info_BriefZ : (Tryz.prog.info? 43).map (fun i => (i.zero, i.size, i.bytes)) = some (some (.agg #[.slice none 0 0, .slice none 0 0, .slice none 0 0]), 3, 72) := by kernel_rfl
theorem info_BriefR : (Tryz.prog.info? 46).map (fun i => (i.zero, i.size, i.bytes)) = some (some (.agg #[.slice none 0 0, .slice none 0 0, .slice none 0 0]), 3, 72) := by kernel_rfl
/-- A list that is lent, made by one operation. -/
def LentJ (B : Nat) (xs : List Int) : Nat → Nat → Post := fun _ _ v w => ∃ A c, v = .slice A xs.length c ∧ Sl w (fun b => B ≤ b ∧ b < w.heap.size) A (xs.length + 12) c (row xs)
theorem LentJ.stable_ {F : World → Prop} {B : Nat} {xs : List Int} {mem : Bool} (hm : mem = true) (lo hi : Nat) : stable F mem (LentJ B xs lo hi) :=
  stable_mem hm fun _ _ u ⟨A, c, hv, h⟩ => ⟨A, c, hv, (h.ext u).more fun b hb h => ⟨h.1, hb⟩⟩
/-- A brief built of lists that are lent. -/
def BuiltJ (B : Nat) (x : Brief) : Nat → Nat → Post := fun _ _ v w => ∃ v1 v2 v3, v = .agg #[v1, v2, v3] ∧ Rep.is w (fun b => B ≤ b ∧ b < w.heap.size) (LB.mk x) [v1, v2, v3]
theorem BuiltJ.stable_ {F : World → Prop} {B : Nat} {x : Brief} {mem : Bool} (hm : mem = true) (lo hi : Nat) : stable F mem (BuiltJ B x lo hi) :=
  stable_mem hm fun _ w u ⟨v1, v2, v3, hv, h⟩ => ⟨v1, v2, v3, hv, Rep.more (Rep.keep h (by rw [size_ext]; omega) fun b _ hb => ext_block w u b hb) fun b hb h => ⟨h.1, hb⟩⟩
/-- .. in a new row. -/
def LitJ (B : Nat) (x : Brief) : Nat → Nat → Post := fun _ _ v w => ∃ A c, v = .slice A 1 c ∧ Sl w (fun b => B ≤ b ∧ b < w.heap.size) A 1 c [LB.mk x]
theorem LitJ.stable_ {F : World → Prop} {B : Nat} {x : Brief} {mem : Bool} (hm : mem = true) (lo hi : Nat) : stable F mem (LitJ B x lo hi) :=
  stable_mem hm fun _ w u ⟨A, c, hv, h⟩ => ⟨A, c, hv, (h.ext u).more fun b hb h => ⟨h.1, hb⟩⟩
set_option maxRecDepth 100000 in
set_option maxHeartbeats 8000000 in
theorem lent23_any (w : World) (S : Nat → Prop) (A : Option Addr) (n c : Nat) (l : List Brief) (h : Sl w S A n c l) (hn : n ≤ 1048576) (hl : ∀ b ∈ l, b.vars.length ≤ 1048576 ∧ b.colors.length ≤ 1048576 ∧ b.edge.length ≤ 1048576) :
    Calls Tryz.prog 9 #[.slice A n c] w (RetO 43 (lbs l) w) := by
  have HL := hide h.len
  have HS := hide (h.more (S' := fun _ => True) fun _ _ _ => trivial)
  have HLL := hide hl
  clear h hl
  obtain ⟨i0, hi, hz, hz1, hz2⟩ := info_parts info_BriefZ
  have HI0 := hide hi; have HZ := hide hz; have HZ1 := hide hz1; have HZ2 := hide hz2
  clear hi hz hz1 hz2
  go_enter Tryz.func9, Tryz.ntmps9
  go_wp2
  go_loopw [3, 4] (fun o i wr => ∃ (k : Nat) (So : Nat → Prop), k ≤ n ∧ i = .int .i64 k ∧ OwnL wr w.heap.size 43 So o (lbs (l.take k)) ∧ (∀ b, So b → w.heap.size ≤ b ∧ b < wr.heap.size) ∧ Below w.heap.size w wr) (fun _ i _ => n - (intOf i).toNat)
  case atStart => exact ⟨0, fun _ => False, Nat.zero_le _, rfl, OwnL.nil_ _ _ _ _, fun _ h => h.elim, Below.refl _ _⟩
  case round =>
    obtain ⟨k, So, hk, rfl, hoq, hSo, hbq⟩ := hrel
    have HOQ := hide hoq; have HSO := hide hSo; have HBQ := hide hbq
    have hsl := HS.out.belowAll hbq
    have hwq := hbq.size
    have hoB := hoq.below_
    clear hoq hSo hbq
    by_cases hlt : k < n
    · obtain ⟨b, off, bx, A1, n1, c1, A2, n2, c2, A3, n3, c3, rfl, hb, hx, s1, s2, s3, k0, k1, k2⟩ := at_Brief hsl hlt
      obtain ⟨z1, z2, z3⟩ := HLL.out bx (List.mem_of_getElem? hx)
      have HT := hide (show lbs (l.take (k + 1)) = lbs (l.take k) ++ [LB.mk bx] by rw [take_at hx]; simp [lbs])
      have C1 := hide (fun u : Ext => lentInts_own (wr.ext u) _ A1 n1 c1 bx.vars (s1.ext u) z1)
      have C2 := hide (fun u : Ext => lentInts_own (wr.ext u) _ A2 n2 c2 bx.colors (s2.ext u) z2)
      have C3 := hide (fun u : Ext => lentInts_own (wr.ext u) _ A3 n3 c3 bx.edge (s3.ext u) z3)
      have hki : (k : Int) < n := by omega
      have hln : (lbs (l.take k)).length ≤ 1048576 := by rw [List.length_map, List.length_take]; omega
      clear hx hsl s1 s2 s3 z1 z2 z3
      go_wp2_with fail
      refine wp_region_flowI [6, 12, 18, 19, 20] 21 (by kernel_rfl) rfl (by kernel_rfl) (by kernel_rfl) ?_
      simp only [List.take_succ_cons, List.take_zero, List.drop_succ_cons, List.drop_zero]
      repeat (refine flowI_known (by kernel_rfl) (fun K hK => ?_); go_simp; (first | (refine hK _ ?_; clear hK K) | (apply Exists.intro; refine ⟨fun _ => ?_, hK _ ?_⟩; (fail); clear hK K)))
      refine flowI_keep0 (LentJ wr.heap.size bx.vars) (by kernel_rfl) (LentJ.stable_ rfl) ?_ ?_
      · intro u
        go_simp
        refine (C1.out u).mono ?_
        rintro e _ ⟨g, c, rfl, hs, _, x', rfl⟩
        exact ⟨_, rfl, ⟨_, c, rfl, hs.more fun b hb h => ⟨by rw [size_ext] at h; omega, hb⟩⟩, onW_ext ⟨_, rfl⟩ ⟨x', rfl⟩⟩
      repeat (refine flowI_known (by kernel_rfl) (fun K hK => ?_); go_simp; (first | (refine hK _ ?_; clear hK K) | (apply Exists.intro; refine ⟨fun _ => ?_, hK _ ?_⟩; (fail); clear hK K)))
      refine flowI_keep0 (LentJ wr.heap.size bx.colors) (by kernel_rfl) (LentJ.stable_ rfl) ?_ ?_
      · intro u
        go_simp
        refine (C2.out u).mono ?_
        rintro e _ ⟨g, c, rfl, hs, _, x', rfl⟩
        exact ⟨_, rfl, ⟨_, c, rfl, hs.more fun b hb h => ⟨by rw [size_ext] at h; omega, hb⟩⟩, onW_ext ⟨_, rfl⟩ ⟨x', rfl⟩⟩
      repeat (refine flowI_known (by kernel_rfl) (fun K hK => ?_); go_simp; (first | (refine hK _ ?_; clear hK K) | (apply Exists.intro; refine ⟨fun _ => ?_, hK _ ?_⟩; (fail); clear hK K)))
      refine flowI_keep0 (LentJ wr.heap.size bx.edge) (by kernel_rfl) (LentJ.stable_ rfl) ?_ ?_
      · intro u
        go_simp
        refine (C3.out u).mono ?_
        rintro e _ ⟨g, c, rfl, hs, _, x', rfl⟩
        exact ⟨_, rfl, ⟨_, c, rfl, hs.more fun b hb h => ⟨by rw [size_ext] at h; omega, hb⟩⟩, onW_ext ⟨_, rfl⟩ ⟨x', rfl⟩⟩
      refine flowI_keepA [true, true, true] (BuiltJ wr.heap.size bx) (by kernel_rfl) (BuiltJ.stable_ rfl) ?_ ?_
      · intro γ u hA
        clear hA
        try simp only [List.nil_append, List.cons_append, List.map_cons, List.map_nil, atG, useH_f, useH_t, useH_nil]
        rintro _ ⟨B1, e1, rfl, t1⟩ _ ⟨B2, e2, rfl, t2⟩ _ ⟨B3, e3, rfl, t3⟩
        have hrep : Rep.is (wr.ext u) (fun b => wr.heap.size ≤ b ∧ b < (wr.ext u).heap.size) (LB.mk bx) [.slice B1 bx.vars.length e1, .slice B2 bx.colors.length e2, .slice B3 bx.edge.length e3] := ⟨_, _, _, rfl, ⟨_, _, rfl, t1⟩, ⟨_, _, rfl, t2⟩, ⟨_, _, rfl, t3⟩⟩
        clear t1 t2 t3
        have HRP := hide hrep
        clear hrep
        go_simp
        exact ⟨⟨_, _, _, rfl, HRP.out⟩, onW_same ⟨_, rfl⟩⟩
      refine flowI_keepA [false, false, false, true] (LitJ wr.heap.size bx) (by kernel_rfl) (LitJ.stable_ rfl) ?_ ?_
      · intro γ u hA
        clear hA
        try simp only [List.nil_append, List.cons_append, List.map_cons, List.map_nil, atG, useH_f, useH_t, useH_nil]
        rintro _ ⟨v1, v2, v3, rfl, hrep⟩
        have HRP := hide hrep
        clear hrep
        obtain ⟨w1, w2, w3, q1, ⟨B1, e1, q2, _⟩, ⟨B2, e2, q3, _⟩, ⟨B3, e3, q4, _⟩⟩ := HRP.out
        injection q1 with q1 q5; injection q5 with q5 q6; injection q6 with q6 _
        subst q1 q5 q6 q2 q3 q4
        go_simp
        refine ⟨⟨_, _, rfl, Sl.lit (α := LB) (S := fun b => wr.heap.size ≤ b ∧ b < (wr.ext u).heap.size) (us := [.slice B1 bx.vars.length e1, .slice B2 bx.colors.length e2, .slice B3 bx.edge.length e3]) (size_ext ..).symm (RepL.single HRP.out) rfl (by simp) (fun b h => ⟨h.1, by rw [World.size_alloc]; omega⟩) ⟨by omega, by rw [World.size_alloc, size_ext]; omega⟩⟩, onW_alloc rfl ⟨u, rfl⟩⟩
      refine flowI_done [true, true, true, true, true] rfl ?_
      intro γ u hap
      clear hap
      simp only [List.nil_append, List.cons_append, List.map_cons, List.map_nil, atG, endH_f, endH_t, endH_nil]
      rintro _ - _ - _ - _ - _ ⟨B1, e1, rfl, t1⟩
      have T1 := hide t1
      clear t1
      have hwe : w.heap.size ≤ (wr.ext u).heap.size := by rw [size_ext]; omega
      have HOE := hide (HOQ.out.ext u)
      have HBE := hide (HBQ.out.ext hwq u)
      have hzE : wr.heap.size ≤ (wr.ext u).heap.size := by rw [size_ext]; omega
      obtain ⟨We, hWe⟩ : ∃ We, wr.ext u = We := ⟨_, rfl⟩
      rw [hWe] at T1 HOE HBE hwe hzE ⊢
      clear hWe C1 C2 C3
      go_simp
      refine wpList_push_sl (α := LB) We rfl (.tmp 11) (.tmp 31) 23 rfl w.heap.size 43 i0 _ 72 Tryz.underlying23 HI0.out HZ.out HZ1.out HZ2.out rfl (by decide) So (fun b => So b ∨ (wr.heap.size ≤ b ∧ b < We.heap.size)) (fun b => wr.heap.size ≤ b ∧ b < We.heap.size) u3 (lbs (l.take k)) [LB.mk bx] rfl HOE.out B1 1 e1 rfl T1.out (fun _ h => .inl h) (fun _ _ h => .inr h) ?hap ?hnew (by omega) (by omega) hwe ?_
      case hap =>
        intro g hg h
        rcases h with h | h
        · exact absurd HOE.out (fun ⟨_, _, _, h3⟩ => h3 g hg h)
        · have := (hoB g hg).2; omega
      case hnew =>
        intro b h
        rcases h with h | h
        · have := (HSO.out b h).2; omega
        · exact h.2
      intro v' w1 hown' hg _
      have HO' := hide hown'; have HG := hide hg
      clear hown' hg
      go_wp2_with fail
      go_roundw
      case rel =>
        have hgs := HG.out.size
        exact ⟨k + 1, _, by omega, by go_num, by rw [HT.out]; exact HO'.out, fun b h => by
          rcases h with h | h
          · have := HSO.out b h; omega
          · omega, HBE.out.grown HG.out hwe fun r e => (hoB r e).1⟩
      case measure => simp [intOf]; omega
    · have hkn : k = n := by omega
      subst hkn
      have hlk : l.take k = l := List.take_of_length_le (by rw [HL.out]; exact Nat.le_refl _)
      rw [hlk] at HOQ
      obtain ⟨A', c', rfl⟩ := HOQ.out.form
      clear hsl
      go_wp2_with fail
      go_ret
      exact ⟨A', _, c', So, rfl, HOQ.out, HSO.out, HBQ.out.to_ext⟩
end Go.Proofs.YthmglmmafgdmhaaGreat
set_option linter.unusedSimpArgs false
set_option linter.unusedVariables false
namespace Go.Proofs.YthmglmmafgdmhaaGreat
open Go.RowKit Go.Maps

/-- A brief in a new row. -/
def LitB (B : Nat) (x : Brief) : Nat → Nat → Post := fun lo hi v w => ∃ A c, v = .slice A 1 c ∧ Sl w (fun b => b < B ∨ lo ≤ b ∧ b < hi) A 1 c [x] ∧ B ≤ lo
theorem LitB.stable_ {F : World → Prop} {B : Nat} {x : Brief} {mem : Bool} (hm : mem = true) (lo hi : Nat) : stable F mem (LitB B x lo hi) :=
  stable_mem hm fun _ w u ⟨A, c, hv, h, h2⟩ => ⟨A, c, hv, h.ext u, h2⟩
/-- It returns a list in memory, that reads as it did. -/
def RetRefs (l : List Brief) (w : World) (e : Ending) (w' : World) : Prop :=
  ∃ A n c, e = .returned (.slice A n c) ∧ Sl w' (fun _ => True) A n c l ∧ n = l.length ∧ ∃ u : Ext, w' = w.ext u
set_option maxRecDepth 100000 in
set_option maxHeartbeats 8000000 in
theorem refs23_any (w : World) (S : Nat → Prop) (A : Option Addr) (n c : Nat) (l : List Brief) (h : Sl w S A n c l) (hn : n ≤ 1048576) :
    Calls Tryz.prog 12 #[.slice A n c] w (RetRefs l w) := by
  have HL := hide h.len
  have HS := hide (h.more (S' := fun g => g < w.heap.size) fun _ hb _ => hb)
  clear h
  obtain ⟨i0, hi, hz, hz1, hz2⟩ := info_parts info_BriefR
  have HI0 := hide hi; have HZ := hide hz; have HZ1 := hide hz1; have HZ2 := hide hz2
  clear hi hz hz1 hz2
  go_enter Tryz.func12, Tryz.ntmps12
  go_wp2
  go_loopw [3, 4] (fun o i wr => ∃ (k : Nat) (So : Nat → Prop), k ≤ n ∧ i = .int .i64 k ∧ OwnL wr w.heap.size 46 So o (l.take k) ∧ (∀ b, So b → b < wr.heap.size) ∧ Below w.heap.size w wr) (fun _ i _ => n - (intOf i).toNat)
  case atStart => exact ⟨0, fun _ => False, Nat.zero_le _, rfl, OwnL.nil_ _ _ _ _, fun _ h => h.elim, Below.refl _ _⟩
  case round =>
    obtain ⟨k, So, hk, rfl, hoq, hSo, hbq⟩ := hrel
    have HOQ := hide hoq; have HSO := hide hSo; have HBQ := hide hbq
    have hsl := HS.out.belowAll hbq
    have hwq := hbq.size
    have hoB := hoq.below_
    clear hoq hSo hbq
    by_cases hlt : k < n
    · obtain ⟨b, off, bx, A1, n1, c1, A2, n2, c2, A3, n3, c3, rfl, hb, hx, s1, s2, s3, k0, k1, k2⟩ := at_Brief hsl hlt
      have HT := hide (take_at hx)
      have S1 := hide s1; have S2 := hide s2; have S3 := hide s3
      have hki : (k : Int) < n := by omega
      have hln : (l.take k).length ≤ 1048576 := by rw [List.length_take]; omega
      clear hx hsl s1 s2 s3
      go_wp2_with fail
      refine wp_region_flowI [17] 18 (by kernel_rfl) rfl (by kernel_rfl) (by kernel_rfl) ?_
      simp only [List.take_succ_cons, List.take_zero, List.drop_succ_cons, List.drop_zero]
      repeat (refine flowI_known (by kernel_rfl) (fun K hK => ?_); go_simp; (first | (refine hK _ ?_; clear hK K) | (apply Exists.intro; refine ⟨fun _ => ?_, hK _ ?_⟩; (fail); clear hK K)))
      refine flowI_keep0 (LitB w.heap.size bx) (by kernel_rfl) (LitB.stable_ rfl) ?_ ?_
      · intro u
        go_simp
        refine ⟨⟨_, _, rfl, Sl.lit (α := Brief) (S := fun b => b < w.heap.size) (us := [.slice A1 n1 c1, .slice A2 n2 c2, .slice A3 n3 c3]) (size_ext ..).symm (RepL.single (Brief.mk_ (S1.out.ext u) (S2.out.ext u) (S3.out.ext u))) rfl (by simp) (fun b h => .inl h) (.inr ⟨by first | omega | (rw [size_ext]; omega), by first | omega | (rw [World.size_alloc, size_ext]; omega)⟩), by first | omega | (rw [size_ext]; omega)⟩, onW_alloc rfl ⟨u, rfl⟩⟩
      refine flowI_done [true] rfl ?_
      intro γ u hap
      simp only [List.nil_append, List.cons_append, List.map_cons, List.map_nil, atG, endH_f, endH_t, endH_nil]
      rintro _ ⟨B1, e1, rfl, t1, _⟩
      have a17 := hap.1 ⟨17, some 28, LitB w.heap.size bx⟩ (by simp)
      simp only [Nat.zero_add, Nat.reduceAdd] at t1 a17
      generalize (γ 17).1 = lo2 at t1 a17
      generalize (γ 17).2 = hi2 at t1 a17
      have T1 := hide t1
      have h2a := a17.1; have h2b := a17.2.2
      clear hap t1 a17
      have hwe : w.heap.size ≤ (wr.ext u).heap.size := by rw [size_ext]; omega
      have HOE := hide (HOQ.out.ext u)
      have HBE := hide (HBQ.out.ext hwq u)
      have hzE : wr.heap.size ≤ (wr.ext u).heap.size := by rw [size_ext]; omega
      have h2c : hi2 ≤ (wr.ext u).heap.size := by first | exact h2b | (rw [size_ext]; omega)
      obtain ⟨We, hWe⟩ : ∃ We, wr.ext u = We := ⟨_, rfl⟩
      rw [hWe] at T1 HOE HBE hwe hzE h2c ⊢
      clear hWe h2b
      go_simp
      refine wpList_push_sl (α := Brief) We rfl (.tmp 11) (.tmp 28) 32 rfl w.heap.size 46 i0 _ 72 Tryz.underlying32 HI0.out HZ.out HZ1.out HZ2.out rfl (by decide) So (fun b => So b ∨ (b < w.heap.size ∨ lo2 ≤ b ∧ b < hi2)) (fun b => b < w.heap.size ∨ lo2 ≤ b ∧ b < hi2) u3 (l.take k) [bx] rfl HOE.out B1 1 e1 rfl T1.out (fun _ h => .inl h) (fun _ _ h => .inr h) ?hap ?hnew (by omega) (by omega) hwe ?_
      case hap =>
        intro g hg h
        have := hoB g hg
        rcases h with h | h | h
        · exact absurd HOE.out (fun ⟨_, _, _, h3⟩ => h3 g hg h)
        · omega
        · omega
      case hnew =>
        intro b h
        rcases h with h | h | h
        · have := HSO.out b h; omega
        · omega
        · omega
      intro v' w1 hown' hg _
      have HO' := hide hown'; have HG := hide hg
      clear hown' hg
      go_wp2_with fail
      go_roundw
      case rel =>
        have hgs := HG.out.size
        exact ⟨k + 1, _, by omega, by go_num, by rw [HT.out]; exact HO'.out, fun b h => by
          rcases h with h | h | h
          · have := HSO.out b h; omega
          · omega
          · omega, HBE.out.grown HG.out hwe fun r e => (hoB r e).1⟩
      case measure => simp [intOf]; omega
    · have hkn : k = n := by omega
      subst hkn
      have hlk : l.take k = l := List.take_of_length_le (by rw [HL.out]; exact Nat.le_refl _)
      rw [hlk] at HOQ
      obtain ⟨A', c', rfl⟩ := HOQ.out.form
      clear hsl
      go_wp2_with fail
      go_ret
      exact ⟨A', _, c', rfl, HOQ.out.sl fun _ _ _ => trivial, rfl, HBQ.out.to_ext⟩
set_option maxRecDepth 100000 in
set_option maxHeartbeats 8000000 in
theorem kept23_any (w : World) (S S' : Nat → Prop) (A A' : Option Addr) (n c c' : Nat) (l : List Brief) (h : Sl w S A n c (lbs l)) (h' : Sl w S' A' n c' l) (hn : n ≤ 1048576) (hl : ∀ b ∈ l, b.vars.length ≤ 1048576 ∧ b.colors.length ≤ 1048576 ∧ b.edge.length ≤ 1048576) :
    Calls Tryz.prog 16 #[.slice A n c, .slice A' n c'] w (RetX (.bool true) w) := by
  have HL := hide h'.len
  have HS := hide h
  have HS' := hide h'
  have HLL := hide hl
  clear h h' hl
  go_enter Tryz.func16, Tryz.ntmps16
  go_wp2
  go_loopw [5] (fun i wr => ∃ k : Nat, k ≤ n ∧ i = .int .i64 k ∧ ∃ u, wr = w.ext u) (fun i _ => n - (intOf i).toNat)
  case atStart => exact ⟨0, Nat.zero_le _, rfl, ext_refl _⟩
  case round =>
    obtain ⟨k, hk, rfl, hu⟩ := hrel
    have sl : Sl wr S A n c (lbs l) := by obtain ⟨u, rfl⟩ := hu; exact HS.out.ext u
    have sl' : Sl wr S' A' n c' l := by obtain ⟨u, rfl⟩ := hu; exact HS'.out.ext u
    have HU := hide hu
    clear hu
    by_cases hlt : k < n
    · obtain ⟨b', off', bx, A1', n1', c1', A2', n2', c2', A3', n3', c3', rfl, hb', hx, s1, s2, s3, j0, j1, j2⟩ := at_Brief sl' hlt
      obtain ⟨z1, z2, z3⟩ := HLL.out bx (List.mem_of_getElem? hx)
      obtain ⟨b, off, A1, c1, A2, c2, A3, c3, rfl, hb, t1, t2, t3, k0, k1, k2⟩ := at_LB sl hlt hx
      have l1 := s1.len; have l2 := s2.len; have l3 := s3.len
      subst l1 l2 l3
      have C1 := hide (fun u : Ext => keptInts_any (wr.ext u) _ _ A1 A1' bx.vars.length c1 c1' bx.vars (t1.ext u) (s1.ext u) z1)
      have C2 := hide (fun u : Ext => keptInts_any (wr.ext u) _ _ A2 A2' bx.colors.length c2 c2' bx.colors (t2.ext u) (s2.ext u) z2)
      have C3 := hide (fun u : Ext => keptInts_any (wr.ext u) _ _ A3 A3' bx.edge.length c3 c3' bx.edge (t3.ext u) (s3.ext u) z3)
      have hki : (k : Int) < n := by omega
      clear hx sl sl' s1 s2 s3 t1 t2 t3 z1 z2 z3
      go_wp2_with fail
      refine wp_region_ext (by kernel_rfl) (by kernel_rfl) ?_
      repeat (any_goals (first | go_big_quiet_step ((first | (go_at_call 15; with_reducible exact quiet_retx (C1.out _)) | (go_at_call 15; with_reducible exact quiet_retx (C2.out _)) | (go_at_call 15; with_reducible exact quiet_retx (C3.out _)))) | quiet_step ((first | (go_at_call 15; with_reducible exact quiet_retx (C1.out _)) | (go_at_call 15; with_reducible exact quiet_retx (C2.out _)) | (go_at_call 15; with_reducible exact quiet_retx (C3.out _))))))
      refine wpQuiet_nil ?_
      rintro _ ⟨uq, rfl⟩
      go_wp2_with fail
      go_roundw
      case rel => exact ⟨k + 1, by omega, by go_num, by obtain ⟨u, hu⟩ := HU.out; rw [hu]; exact ext_ext _ _ _⟩
      case measure => simp [intOf]; omega
    · clear sl sl'
      go_wp2_with fail
      go_ret
      exact RetX.b rfl (by obtain ⟨u, hu⟩ := HU.out; rw [hu]; exact Below.of_ext w u (Nat.le_refl _))
end Go.Proofs.YthmglmmafgdmhaaGreat
